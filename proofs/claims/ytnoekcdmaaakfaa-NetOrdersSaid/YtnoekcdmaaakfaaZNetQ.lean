/- Layer 25: the law of orders. -/
import Derived.Test.YtnoekcdmaaakfaaZNetP
-- STEPWISE
-- WK
set_option linter.unusedVariables false
set_option linter.unusedSimpArgs false
set_option maxRecDepth 10000
namespace Go.Proofs.Ytnoekcdmaaakfaa.VL
open Go Go.RowKit Go.Lib

theorem ntOk_drop {l : List Ml} (hl : l.length ≤ 60) (ha : l.all mlOk = true) (i : Nat) : ntOk ⟨l.drop i, []⟩ = true := by
  unfold ntOk
  simp only [chainOk, Bool.and_true, Bool.and_eq_true, decide_eq_true_eq, List.length_drop, List.length_nil]
  exact ⟨by omega, by omega, List.all_eq_true.2 fun x hx => List.all_eq_true.1 ha x (List.mem_of_mem_drop hx)⟩
theorem deliv_first {l : List Ml} (hl : l.length ≤ 60) (ha : l.all mlOk = true) {i : Nat} {m : Ml} (hg : l[i]? = some m) : delivN ⟨l.drop i, []⟩ 0 = (⟨l.drop (i + 1), []⟩, m, 0) := by
  have hok := ntOk_drop hl ha i
  have hi := (List.getElem?_eq_some_iff.1 hg).1
  have h0 : askN ⟨l.drop i, []⟩ 0 = 0 := by
    unfold askN
    rw [if_neg (by rw [hok]; simp), if_neg (by simp only [List.length_drop]; omega)]
  unfold delivN
  rw [h0, if_pos rfl]
  have hd : dropN ⟨l.drop i, []⟩ (0 : Int).toNat = ⟨l.drop (i + 1), []⟩ := by
    unfold dropN
    simp
  have hm : (l.drop i).getD (0 : Int).toNat mlZ = m := by
    rw [drop_get' hg]; rfl
  rw [hd]
  dsimp only
  rw [hm, if_neg (by simp [blk])]
theorem mlOk_d {l : List Ml} (ha : l.all mlOk = true) : ∀ m ∈ l, m.d.length ≤ 40000 := fun m hm => by
  have := List.all_eq_true.1 ha m hm
  unfold mlOk at this
  simp only [Bool.and_eq_true, decide_eq_true_eq] at this
  exact this.2.2

set_option maxHeartbeats 8000000 in
theorem netOrders_spec (l : List Ml) (hl0 : l.length ≤ 9223372036854775807) (H : List Box) : ASpec Try.prog 3 [.lst 3 (mlG l)] H (Gives (vb true) H) := by
  have ha := fun H => alive25_spec H
  have hg : ∀ H, ASpec Try.prog 8 [.agg [.emp, .emp], .lst 3 (mlG l)] H (Gives (vb (grN ⟨[], []⟩ || grN ⟨l, []⟩)) H) := fun H => ASpec.weakA (fun w β x hx => rep_nt0 hx) (greatLaw_spec ⟨[], []⟩ l (by simp) hl0 H)
  generalize (grN ⟨[], []⟩ || grN ⟨l, []⟩) = gr at *
  by_cases h60 : (60 : Int) < (l.length : Int)
  · refine ASpec.enter Try.func3 rfl (fun a w => Try.call3 a w) Try.ntmps3 Try.results3 fun base w β hI => ?_
    refine wk (wA h60 wT) (wA ha (wA DrM.mk wT)) ?_
    refine wkEnd wT ?_
    exact Fin.same ⟨rfl, rfl⟩
  cases gr with
  | true =>
    refine ASpec.enter Try.func3 rfl (fun a w => Try.call3 a w) Try.ntmps3 Try.results3 fun base w β hI => ?_
    refine wk (wA h60 wT) (wA ha (wA hg (wA DrM.mk wT))) ?_
    refine wkEnd wT ?_
    exact Fin.same ⟨rfl, rfl⟩
  | false =>
    have hs : ∀ H, ASpec Try.prog 9 [.agg [.emp, .emp], .lst 3 (mlG l)] H (Gives (.tup [ntV (sendN ⟨[], []⟩ l).1, vi (sendN ⟨[], []⟩ l).2.1, vi (sendN ⟨[], []⟩ l).2.2]) H) := fun H => ASpec.weakA (fun w β x hx => rep_nt0 hx) (send_spec ⟨[], []⟩ ⟨by simp, by simp, by simp⟩ l hl0 H)
    unfold sendN at hs
    have hok0 : ntOk ⟨[], []⟩ = true := by decide +kernel
    rw [hok0] at hs
    cases hall : l.all mlOk with
    | false =>
      rw [hall, if_neg (by simp)] at hs
      have hs' : ∀ H, ASpec Try.prog 9 [.agg [.emp, .emp], .lst 3 (mlG l)] H (Gives (.tup [.agg [.lst 3 [], .lst 2 []], vi 0, vi 1]) H) := hs
      clear hall
      refine ASpec.enter Try.func3 rfl (fun a w => Try.call3 a w) Try.ntmps3 Try.results3 fun base w β hI => ?_
      refine wk (wA h60 wT) (wA ha (wA hg (wA hs' (wA DrM.mk wT)))) ?_
      refine wkEnd wT ?_
      exact Fin.cut (.v _) ⟨rfl, rfl⟩
    | true =>
      have hl60 : l.length ≤ 60 := by omega
      have hd0 : l.drop 0 = l := List.drop_zero
      have e1 : (⟨([] : List Ml) ++ l.take (60 - ([] : List Ml).length), []⟩ : Nt) = ⟨l.drop 0, []⟩ := by
        rw [hd0, List.nil_append, List.take_of_length_le (by simpa using hl60)]
      have e2 : ((l.length - (60 - ([] : List Ml).length) : Nat) : Int) = 0 := by simp; omega
      rw [hall, if_pos (by simp)] at hs
      dsimp only at hs
      rw [e1, e2] at hs
      have hs' : ∀ H, ASpec Try.prog 9 [.agg [.emp, .emp], .lst 3 (mlG l)] H (Gives (.tup [.agg [.lst 3 (mlG (l.drop 0)), .lst 2 []], vi 0, vi 0]) H) := hs
      have hsm := fun m H => sameMail_spec m m H
      have hdv := fun i (m : Ml) (hg : l[i]? = some m) H => deliver_spec ⟨l.drop i, []⟩ ⟨by simp only [List.length_drop]; omega, by simp, fun m hm => by have := mlOk_d hall m (List.mem_of_mem_drop hm); omega⟩ 0 H
      generalize hdd : l.drop 0 = d0 at hs'
      refine ASpec.enter Try.func3 rfl (fun a w => Try.call3 a w) Try.ntmps3 Try.results3 fun base w β hI => ?_
      refine wk (wA h60 wT) (wA ha (wA hg (wA hs' (wA DrM.mk wT)))) ?_
      rw [← hdd]
      refine AWP.loop (ι := {i : Nat // i ≤ l.length}) (fun p => ⟨[(0, .lst 3 (mlG l)), (3, .ptr H.length 0 0), (4, vi 0), (6, vi p.1)], H ++ [⟨[.lst 3 (mlG (l.drop p.1)), .lst 2 []], 0, 0, false⟩]⟩) (fun p => l.length - p.1) ⟨0, Nat.zero_le _⟩ ?_ ?_
      · dsimp only
        exact Coe.kp
      · rintro ⟨i, hi⟩
        dsimp only
        by_cases hc : (i : Int) < (l.length : Int)
        · have hgi : l[i]? = some l[i] := List.getElem?_eq_getElem (by omega)
          generalize l[i] = m at hgi
          have hv := hdv i m hgi
          rw [deliv_first hl60 hall hgi] at hv
          have hsm1 := hsm m
          rw [decide_eq_true rfl] at hsm1
          have hv' : ∀ H, ASpec Try.prog 10 [.agg [.lst 3 (mlG (l.drop i)), .lst 2 []], vi 0] H (Gives (.tup [.agg [.lst 3 (mlG (l.drop (i + 1))), .lst 2 []], mlV m, vi 0]) H) := hv
          obtain ⟨f, t, d⟩ := m
          refine wk (wA hc (wA hgi wT)) (wA hv' (wA hsm1 (wA DrM.mk wT))) ?_
          refine ⟨⟨i + 1, by omega⟩, ?_, by dsimp only; omega⟩
          dsimp only
          refine Coe.cutN (M := [_]) ?_ ?_ ?_
          · exact Keeps.kp wT
          · simp only [List.mem_cons, List.not_mem_nil, or_false, forall_eq_or_imp, forall_eq, List.length_cons, List.length_nil]
            exact ⟨lt_ml _, .ptr _ _ _ (by omega), .v _, .v _⟩
          · simp only [List.mem_cons, List.not_mem_nil, or_false, forall_eq_or_imp, forall_eq]
            exact ⟨lt_ml _, lt_ct []⟩
        · have : l.drop i = [] := List.drop_of_length_le (by omega)
          rw [this]
          refine wk (wA hc wT) (wA DrM.mk wT) ?_
          refine wkEnd wT ?_
          exact Fin.cut (.v _) ⟨rfl, rfl⟩

end Go.Proofs.Ytnoekcdmaaakfaa.VL

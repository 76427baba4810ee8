/- Layer 25: the law of counts. -/
import Derived.Test.YtnoekcdmaaakfaaZNetS
-- STEPWISE
-- WK
-- HOLE 15 1 [(.same, [1]), (.same, [1]), (.same, [1]), (.same, [1]), (.same, [1]), (.same, [1]), (.same, [1]), (.same, [1]), (.same, [1]), (.same, [1]), (.same, [1]), (.same, [1]), (.same, [1]), (.same, [1]), (.same, [1]), (.same, [1]), (.same, [1]), (.same, [1]), (.same, [1]), (.same, [1]), (.same, [1]), (.same, [1]), (.new 1, []), (.wr 1, []), (.same, []), (.same, [])]
set_option linter.unusedVariables false
set_option linter.unusedSimpArgs false
set_option maxRecDepth 10000
namespace Go.Proofs.Ytnoekcdmaaakfaa.VL
open Go Go.RowKit Go.Lib

theorem holM_NetT_15 : HolM 15 1 [(.same, [1]), (.same, [1]), (.same, [1]), (.same, [1]), (.same, [1]), (.same, [1]), (.same, [1]), (.same, [1]), (.same, [1]), (.same, [1]), (.same, [1]), (.same, [1]), (.same, [1]), (.same, [1]), (.same, [1]), (.same, [1]), (.same, [1]), (.same, [1]), (.same, [1]), (.same, [1]), (.same, [1]), (.same, [1]), (.new 1, []), (.wr 1, []), (.same, []), (.same, [])] := ⟨⟩

theorem rep_empL {w : World} {H : List Box} {β : Pl} {v : Value} (sz : Nat) (h : Rep w H β .emp v) : Rep w H β (.lst sz []) v := by
  cases h with
  | emp a => exact .lst0 _ _ _
theorem lt_n0 {k : Nat} (fl : List Ml) : ∀ c ∈ [AV.lst 3 (mlG fl), AV.lst 2 []], Lt k c := by
  simp only [List.mem_cons, List.not_mem_nil, or_false, forall_eq_or_imp, forall_eq]
  exact ⟨lt_ml _, lt_ct []⟩

set_option maxHeartbeats 16000000 in
theorem netCounts_spec (l : List Tu) (hl0 : l.length ≤ 9223372036854775807) (h8 : ∀ t ∈ l, t8 t) (H : List Box) : ASpec Try.prog 6 [.lst 4 (tuG l)] H (Gives (vb true) H) := by
  have ha := fun H => alive25_spec H
  have hsm := fun m H => sameMail_spec m m H
  by_cases h200 : (200 : Int) < (l.length : Int)
  · refine ASpec.enter Try.func6 rfl (fun a w => Try.call6 a w) Try.ntmps6 Try.results6 fun base w β hI => ?_
    refine wk (wA h200 wT) (wA ha (wA holM_NetT_15 (wA DrM.mk wT))) ?_
    refine wkEnd wT ?_
    exact Fin.same ⟨rfl, rfl⟩
  refine ASpec.enter Try.func6 rfl (fun a w => Try.call6 a w) Try.ntmps6 Try.results6 fun base w β hI => ?_
  refine wk (wA h200 wT) (wA ha (wA holM_NetT_15 (wA DrM.mk wT))) ?_
  refine AWP.coe (σ' := ⟨[(0, .lst 4 (tuG l)), (3, .ptr H.length 0 0), (4, vi 0)], H ++ [⟨[.lst 3 [], .lst 2 []], 0, 0, false⟩]⟩) ?_ ?_
  · refine Coe.trans (Coe.cell (k := H.length + 0) (j := 0) (c' := .lst 3 []) (app_at _ _ 0 rfl) rfl (fun w β x _ hr => rep_empL 3 hr)) ?_
    rw [List.set_append_right _ _ (by omega)]
    simp only [Nat.add_sub_cancel_left, Nat.add_zero, Nat.sub_self, List.set_cons_zero, List.set_cons_succ]
    refine Coe.trans (Coe.cell (k := H.length + 0) (j := 1) (c' := .lst 2 []) (app_at _ _ 0 rfl) rfl (fun w β x _ hr => rep_empL 2 hr)) ?_
    rw [List.set_append_right _ _ (by omega)]
    simp only [Nat.add_sub_cancel_left, Nat.add_zero, Nat.sub_self, List.set_cons_zero, List.set_cons_succ]
    exact Coe.kp
  refine AWP.loop (ι := {s : Nat × List Ml // s.1 ≤ l.length ∧ N0 s.2}) (fun s => ⟨[(0, .lst 4 (tuG l)), (3, .ptr H.length 0 0), (4, vi s.1.1)], H ++ [⟨[.lst 3 (mlG s.1.2), .lst 2 []], 0, 0, false⟩]⟩) (fun s => l.length - s.1.1) ⟨(0, []), Nat.zero_le _, N0.nil⟩ ?_ ?_
  · dsimp only
    exact Coe.kp
  · rintro ⟨⟨i, fl⟩, hi, hn⟩
    dsimp only at hi hn ⊢
    have hnL := hn.L
    have hfl := hn.l
    by_cases hc : (i : Int) < (l.length : Int)
    · have hg : l[i]? = some l[i] := List.getElem?_eq_getElem (by omega)
      have ht8 := h8 l[i] (List.getElem_mem _)
      generalize l[i] = t at hg ht8
      obtain ⟨k, a, b, d⟩ := t
      obtain ⟨⟨k0, k1⟩, ⟨a0, a1⟩, ⟨b0, b1⟩⟩ := ht8
      dsimp only at k0 k1 a0 a1 b0 b1
      by_cases hd : (100 : Int) < (d.length : Int)
      · refine wk (wA hc (wA hg (wA hd wT))) (wA holM_NetT_15 (wA DrM.mk wT)) ?_
        refine wkEnd wT ?_
        exact Fin.cut (.v _) ⟨rfl, rfl⟩
      have ea : a.tmod 8 = a % 8 := Int.tmod_eq_emod_of_nonneg a0
      have eb : b.tmod 8 = b % 8 := Int.tmod_eq_emod_of_nonneg b0
      have hmk := mod8_ok (d := d) a0 b0 (by omega)
      have hend : ∀ (fl' : List Ml) (N : List Box) (k : List (Nat × AV)), N0 fl' → Keeps k [(0, .lst 4 (tuG l)), (3, .ptr H.length 0 0), (4, vi ((i + 1 : Nat) : Int))] → Coe ⟨base, 165, w, H, β, hI⟩ ⟨k, H ++ ([⟨[.lst 3 (mlG fl'), .lst 2 []], 0, 0, false⟩] ++ N)⟩ ⟨[(0, .lst 4 (tuG l)), (3, .ptr H.length 0 0), (4, vi ((i + 1 : Nat) : Int))], H ++ [⟨[.lst 3 (mlG fl'), .lst 2 []], 0, 0, false⟩]⟩ := fun fl' N k _ hk => by
        refine Coe.cutN (M := [_]) hk ?_ ?_
        · simp only [List.mem_cons, List.not_mem_nil, or_false, forall_eq_or_imp, forall_eq, List.length_cons, List.length_nil]
          exact ⟨lt_tu _, .ptr _ _ _ (by omega), .v _⟩
        · intro c hc
          rcases List.mem_singleton.1 hc with rfl
          intro c hc
          exact lt_n0 fl' c (by simpa using hc)
      by_cases hk0 : k = 0
      · subst hk0
        have hs := fun H => send_spec ⟨fl, []⟩ hnL [⟨a % 8, b % 8, d⟩] (by simp) H
        rw [hn.send hmk] at hs
        by_cases h60 : fl.length < 60
        · rw [if_pos h60] at hs
          have hs' : ∀ H, ASpec Try.prog 9 [.agg [.lst 3 (mlG fl), .lst 2 []], .lst 3 [[vi (a % 8), vi (b % 8), vB d]]] H (Gives (.tup [.agg [.lst 3 (mlG (fl ++ [⟨a % 8, b % 8, d⟩])), .lst 2 []], vi 0, vi 0]) H) := hs
          have hn' := hn.snoc h60 hmk
          have hlen : (fl ++ [(⟨a % 8, b % 8, d⟩ : Ml)]).length = fl.length + 1 := by simp
          have hne : ¬ (fl.length : Int) = 60 := by omega
          have hcs : ((fl.length + 1 : Nat) : Int) = (fl.length : Int) + 1 := by omega
          generalize fl ++ [(⟨a % 8, b % 8, d⟩ : Ml)] = fl' at *
          repeat' (first
            | (refine AWP.seq ?_)
            | (refine AWP.block ?_)
            | (refine AWP.drawH_k (id := 15) 1 [(.same, [1]), (.same, [1]), (.same, [1]), (.same, [1]), (.same, [1]), (.same, [1]), (.same, [1]), (.same, [1]), (.same, [1]), (.same, [1]), (.same, [1]), (.same, [1]), (.same, [1]), (.same, [1]), (.same, [1]), (.same, [1]), (.same, [1]), (.same, [1]), (.same, [1]), (.same, [1]), (.same, [1]), (.same, [1]), (.new 1, []), (.wr 1, []), (.same, []), (.same, [])] rfl (by decide +kernel) fun Q' hQ' => ?_)
            | (refine AWP.drawH0_k (id := 15) 1 [(.same, [1]), (.same, [1]), (.same, [1]), (.same, [1]), (.same, [1]), (.same, [1]), (.same, [1]), (.same, [1]), (.same, [1]), (.same, [1]), (.same, [1]), (.same, [1]), (.same, [1]), (.same, [1]), (.same, [1]), (.same, [1]), (.same, [1]), (.same, [1]), (.same, [1]), (.same, [1]), (.same, [1]), (.same, [1]), (.new 1, []), (.wr 1, []), (.same, []), (.same, [])] rfl (by decide +kernel) fun Q' hQ' => ?_)
            | (with_reducible refine hops.step fun T hT => ?_; simp (disch := omega) only [hone, hskip, patch, hole, List.headD_cons, List.tail_cons, Prod.mk.injEq, eq_self, and_assoc, exists_and_left, List.append_cancel_left_eq, List.cons.injEq, go_sem, Nat.reduceBEq, Nat.reduceLT, Nat.reduceEqDiff, reduceIte, Nat.reduceAdd, Nat.reduceMul, Nat.reduceSub, Nat.reduceLeDiff, Int.reduceToNat, Int.reducePow, Int.reduceLT, Int.reduceEq, Int.reduceNeg, Nat.reducePow, List.reduceReplicate, Int.reduceLE, hc, hg, hd, ea, eb, hlen, hne, hcs, Int.sub_zero])
            | (with_reducible refine hops.nil ?_)
            | (with_reducible refine hT _ _ ?_; clear hT T)
            | (refine AWP.region_k fun Q' hQ' => ?_)
            | (refine AWP.draw_k rfl (by kernel_rfl) fun Q' hQ' => ?_)
            | (with_reducible refine aops.step fun T hT => ?_; simp (disch := omega) only [go_sem, Nat.reduceBEq, Nat.reduceLT, Nat.reduceEqDiff, reduceIte, Nat.reduceAdd, Nat.reduceMul, Nat.reduceSub, Nat.reduceLeDiff, Int.reduceToNat, Int.reducePow, Int.reduceLT, Int.reduceEq, Int.reduceNeg, Nat.reducePow, List.reduceReplicate, Int.reduceLE, hc, hg, hd, ea, eb, hlen, hne, hcs, Int.sub_zero])
            | (with_reducible refine qops.step fun T hT => ?_; simp (disch := omega) only [go_sem, Nat.reduceBEq, Nat.reduceLT, Nat.reduceEqDiff, reduceIte, Nat.reduceAdd, Nat.reduceMul, Nat.reduceSub, Nat.reduceLeDiff, Int.reduceToNat, Int.reducePow, Int.reduceLT, Int.reduceEq, Int.reduceNeg, Nat.reducePow, List.reduceReplicate, Int.reduceLE, hc, hg, hd, ea, eb, hlen, hne, hcs, Int.sub_zero])
            | (with_reducible refine aops.nil ?_)
            | (with_reducible refine qops.nil ?_)
            | (with_reducible refine hT _ ?_; clear hT T)
            | (refine AWP.skip ?_; try simp only [AExit.then, AExit.inBlock, reduceIte, Nat.reduceEqDiff])
            | (refine AWP.exit ?_; try simp only [AExit.then, AExit.inBlock, reduceIte, Nat.reduceEqDiff])
            | (refine AWP.ret ?_; try simp only [AExit.then, AExit.inBlock, reduceIte, Nat.reduceEqDiff])
            | (refine AWP.cond rfl (fun h => ?_) (fun h => ?_) <;> (try simp only [decide_eq_true_eq, decide_eq_false_iff_not, Bool.true_eq_false, Bool.false_eq_true] at h) <;> (try contradiction))
            | (refine hQ' _ _ ?_; clear hQ' Q'; try simp only [AExit.then, AExit.inBlock, reduceIte, Nat.reduceEqDiff])
            | (refine hQ' _ ?_; clear hQ' Q'; try simp only [AExit.then, AExit.inBlock, reduceIte, Nat.reduceEqDiff])
            | (with_reducible refine Branch.split (fun h => ?_) (fun h => ?_) <;> (try simp only [decide_eq_true_eq, decide_eq_false_iff_not, Bool.not_true, Bool.not_false, Bool.true_eq_false, Bool.false_eq_true] at h) <;> (try contradiction) <;> (simp (disch := omega) only [go_sem, Nat.reduceBEq, Nat.reduceLT, Nat.reduceEqDiff, reduceIte, Nat.reduceAdd, Nat.reduceMul, Nat.reduceSub, Nat.reduceLeDiff, Int.reduceToNat, Int.reducePow, Int.reduceLT, Int.reduceEq, Int.reduceNeg, Nat.reducePow, List.reduceReplicate, Int.reduceLE, h, hc, hg, hd, ea, eb, hlen, hne, hcs, Int.sub_zero]))
            | (with_reducible intro h; try simp only [h, go_sem, Nat.reduceBEq, Nat.reduceLT, Nat.reduceEqDiff, reduceIte, Nat.reduceAdd, Nat.reduceMul, Nat.reduceSub, Nat.reduceLeDiff, Int.reduceToNat, Int.reducePow, Int.reduceLT, Int.reduceEq, Int.reduceNeg, Nat.reducePow, List.reduceReplicate, Int.reduceLE, hc, hg, hd, ea, eb, hlen, hne, hcs, Int.sub_zero])
            | ((first | (with_reducible refine acall.det (hs' _) ?_) | (with_reducible refine qcall.det (hs' _) ?_)); try simp (disch := omega) only [go_sem, Nat.reduceBEq, Nat.reduceLT, Nat.reduceEqDiff, reduceIte, Nat.reduceAdd, Nat.reduceMul, Nat.reduceSub, Nat.reduceLeDiff, Int.reduceToNat, Int.reducePow, Int.reduceLT, Int.reduceEq, Int.reduceNeg, Nat.reducePow, List.reduceReplicate, Int.reduceLE, hc, hg, hd, ea, eb, hlen, hne, hcs, Int.sub_zero])
            | ((first | (with_reducible refine hcall.det (fun _ => hs' _) ?_)); try simp (disch := omega) only [go_sem, Nat.reduceBEq, Nat.reduceLT, Nat.reduceEqDiff, reduceIte, Nat.reduceAdd, Nat.reduceMul, Nat.reduceSub, Nat.reduceLeDiff, Int.reduceToNat, Int.reducePow, Int.reduceLT, Int.reduceEq, Int.reduceNeg, Nat.reducePow, List.reduceReplicate, Int.reduceLE, hc, hg, hd, ea, eb, hlen, hne, hcs, Int.sub_zero]))
          refine ⟨⟨(i + 1, fl'), by dsimp only; omega, hn'⟩, hend fl' _ _ hn' (Keeps.kp wT), by dsimp only; omega⟩
        · rw [if_neg h60] at hs
          have hs' : ∀ H, ASpec Try.prog 9 [.agg [.lst 3 (mlG fl), .lst 2 []], .lst 3 [[vi (a % 8), vi (b % 8), vB d]]] H (Gives (.tup [.agg [.lst 3 (mlG fl), .lst 2 []], vi 1, vi 0]) H) := hs
          have hne : (fl.length : Int) = 60 := by omega
          have h61 : (60 : Int) + 1 - 1 = 60 := rfl
          refine wk (wA hc (wA hg (wA hd (wA ea (wA eb (wA hne (wA h61 wT))))))) (wA hs' (wA holM_NetT_15 (wA DrM.mk wT))) ?_
          refine ⟨⟨(i + 1, fl), by dsimp only; omega, hn⟩, hend fl _ _ hn (Keeps.kp wT), by dsimp only; omega⟩
      by_cases hk1 : k = 1
      · subst hk1
        have hs := fun H => lose_spec ⟨fl, []⟩ hnL a H
        rw [hn.lose a0] at hs
        by_cases hpl : a < (fl.length : Int)
        · rw [if_pos hpl] at hs
          have hs' : ∀ H, ASpec Try.prog 15 [.agg [.lst 3 (mlG fl), .lst 2 []], vi a] H (Gives (.tup [.agg [.lst 3 (mlG (fl.take a.toNat ++ fl.drop (a.toNat + 1))), .lst 2 []], vi 0]) H) := hs
          have hn' := hn.drop a.toNat
          have hcs : ((fl.take a.toNat ++ fl.drop (a.toNat + 1)).length : Int) = (fl.length : Int) - 1 := by simp only [List.length_append, List.length_take, List.length_drop]; omega
          generalize fl.take a.toNat ++ fl.drop (a.toNat + 1) = fl' at *
          refine wk (wA hc (wA hg (wA hd (wA hpl (wA hcs wT))))) (wA hs' (wA holM_NetT_15 (wA DrM.mk wT))) ?_
          refine ⟨⟨(i + 1, fl'), by dsimp only; omega, hn'⟩, hend fl' _ _ hn' (Keeps.kp wT), by dsimp only; omega⟩
        · rw [if_neg hpl] at hs
          have hs' : ∀ H, ASpec Try.prog 15 [.agg [.lst 3 (mlG fl), .lst 2 []], vi a] H (Gives (.tup [.agg [.lst 3 (mlG fl), .lst 2 []], vi 7]) H) := hs
          refine wk (wA hc (wA hg (wA hd (wA hpl wT)))) (wA hs' (wA holM_NetT_15 (wA DrM.mk wT))) ?_
          refine ⟨⟨(i + 1, fl), by dsimp only; omega, hn⟩, hend fl _ _ hn (Keeps.kp wT), by dsimp only; omega⟩
      by_cases hk2 : k = 2
      · subst hk2
        have hs := fun H => lose_spec ⟨fl, []⟩ hnL a H
        rw [hn.lose a0] at hs
        by_cases hpl : a < (fl.length : Int)
        · rw [if_pos hpl] at hs
          have hs' : ∀ H, ASpec Try.prog 15 [.agg [.lst 3 (mlG fl), .lst 2 []], vi a] H (Gives (.tup [.agg [.lst 3 (mlG (fl.take a.toNat ++ fl.drop (a.toNat + 1))), .lst 2 []], vi 0]) H) := hs
          have hn' := hn.drop a.toNat
          have hcs : ((fl.take a.toNat ++ fl.drop (a.toNat + 1)).length : Int) = (fl.length : Int) - 1 := by simp only [List.length_append, List.length_take, List.length_drop]; omega
          generalize fl.take a.toNat ++ fl.drop (a.toNat + 1) = fl' at *
          refine wk (wA hc (wA hg (wA hd (wA hpl (wA hcs wT))))) (wA hs' (wA holM_NetT_15 (wA DrM.mk wT))) ?_
          refine ⟨⟨(i + 1, fl'), by dsimp only; omega, hn'⟩, hend fl' _ _ hn' (Keeps.kp wT), by dsimp only; omega⟩
        · rw [if_neg hpl] at hs
          have hs' : ∀ H, ASpec Try.prog 15 [.agg [.lst 3 (mlG fl), .lst 2 []], vi a] H (Gives (.tup [.agg [.lst 3 (mlG fl), .lst 2 []], vi 7]) H) := hs
          refine wk (wA hc (wA hg (wA hd (wA hpl wT)))) (wA hs' (wA holM_NetT_15 (wA DrM.mk wT))) ?_
          refine ⟨⟨(i + 1, fl), by dsimp only; omega, hn⟩, hend fl _ _ hn (Keeps.kp wT), by dsimp only; omega⟩
      by_cases hk3 : k = 3
      · subst hk3
        obtain ⟨p, rfl⟩ := Int.eq_ofNat_of_zero_le a0
        have hs := fun H => double_spec ⟨fl, []⟩ hnL p H
        rw [hn.dbl a0] at hs
        by_cases hpl : (p : Int) < (fl.length : Int)
        · rw [if_pos hpl] at hs
          by_cases h60 : fl.length = 60
          · rw [if_pos h60] at hs
            have hs' : ∀ H, ASpec Try.prog 17 [.agg [.lst 3 (mlG fl), .lst 2 []], vi p] H (Gives (.tup [.agg [.lst 3 (mlG fl), .lst 2 []], vi 8]) H) := hs
            have hge : ¬ (fl.length : Int) < 60 := by omega
            refine wk (wA hc (wA hg (wA hd (wA hpl (wA hge wT))))) (wA hs' (wA holM_NetT_15 (wA DrM.mk wT))) ?_
            refine ⟨⟨(i + 1, fl), by dsimp only; omega, hn⟩, hend fl _ _ hn (Keeps.kp wT), by dsimp only; omega⟩
          · rw [if_neg h60] at hs
            have hg2 : fl[p]? = some fl[p] := List.getElem?_eq_getElem (by omega)
            have hm := List.all_eq_true.1 hn.a fl[p] (List.getElem_mem _)
            rw [Int.toNat_natCast, List.getD_eq_getElem?_getD, hg2, Option.getD_some] at hs
            have hlt : (fl.length : Int) < 60 := by omega
            generalize fl[p] = m at *
            have hs' : ∀ H, ASpec Try.prog 17 [.agg [.lst 3 (mlG fl), .lst 2 []], vi p] H (Gives (.tup [.agg [.lst 3 (mlG (fl ++ [m])), .lst 2 []], vi 0]) H) := hs
            have hsm' : ∀ H, ASpec Try.prog 11 [mlV m, mlV m] H (Gives (vb true) H) := by simpa using hsm m
            have hn' := hn.snoc (by omega) hm
            have hg1 : (fl ++ [m])[fl.length]? = some m := by simp
            have hcs : ((fl ++ [m]).length : Int) = (fl.length : Int) + 1 := by simp
            generalize fl ++ [m] = fl' at *
            refine wk (wA hc (wA hg (wA hd (wA hpl (wA hlt (wA hcs (wA hg1 (wA hg2 wT)))))))) (wA hs' (wA hsm' (wA holM_NetT_15 (wA DrM.mk wT)))) ?_
            refine ⟨⟨(i + 1, fl'), by dsimp only; omega, hn'⟩, hend fl' _ _ hn' (Keeps.kp wT), by dsimp only; omega⟩
        · rw [if_neg hpl] at hs
          have hs' : ∀ H, ASpec Try.prog 17 [.agg [.lst 3 (mlG fl), .lst 2 []], vi p] H (Gives (.tup [.agg [.lst 3 (mlG fl), .lst 2 []], vi 7]) H) := hs
          refine wk (wA hc (wA hg (wA hd (wA hpl wT)))) (wA hs' (wA holM_NetT_15 (wA DrM.mk wT))) ?_
          refine ⟨⟨(i + 1, fl), by dsimp only; omega, hn⟩, hend fl _ _ hn (Keeps.kp wT), by dsimp only; omega⟩
      refine wk (wA hc (wA hg (wA hd (wA hk0 (wA hk1 (wA hk2 (wA hk3 wT))))))) (wA holM_NetT_15 (wA DrM.mk wT)) ?_
      refine ⟨⟨(i + 1, fl), by dsimp only; omega, hn⟩, hend fl _ _ hn (Keeps.kp wT), by dsimp only; omega⟩
    · have : i = l.length := by omega
      subst this
      have hr := fun H => netRight_spec ⟨fl, []⟩ (by dsimp only; omega) (by simp) H
      rw [hn.ok] at hr
      have hr' : ∀ H, ASpec Try.prog 23 [.agg [.lst 3 (mlG fl), .lst 2 []]] H (Gives (vb true) H) := hr
      refine wk (wA hc wT) (wA hr' (wA holM_NetT_15 (wA DrM.mk wT))) ?_
      refine wkEnd wT ?_
      exact Fin.cut (.v _) ⟨rfl, rfl⟩

end Go.Proofs.Ytnoekcdmaaakfaa.VL

/- Layer 13: the law of rings. -/
import Derived.Test.YtadajfahlgekiaaJrnQ
import Derived.Test.YtadajfahlgekiaaVLHoleT
-- STEPWISE
-- TAIL
-- HOLE 13 2 [(.same, [2, 3]), (.same, [2, 3]), (.same, [2, 3]), (.same, [2, 3]), (.same, [2, 3]), (.same, [2, 3]), (.same, [2, 3]), (.same, [2, 3]), (.same, [2, 3]), (.same, [2, 3]), (.same, [2, 3]), (.same, [2, 3]), (.same, [2, 3]), (.same, [2, 3]), (.same, [2, 3]), (.new 2, [3]), (.new 3, [2]), (.wr 2, []), (.wr 3, []), (.same, [])]
-- HOLE 16 0 [(.same, []), (.same, [0]), (.wr 0, []), (.wr 1, [])]
set_option linter.unusedVariables false
set_option linter.unusedSimpArgs false
set_option maxRecDepth 10000
namespace Go.Proofs.Ytadajfahlgekiaa.VL
open Go Go.RowKit Go.Lib

abbrev rbox (D : Dk) : Box := ⟨[.lst 64 (secG D.s), vi D.f, vb D.d], 0, 0, false⟩
abbrev cbox (x : Rc) : Box := ⟨[vi x.q, vi x.g, vs x.n], 0, 0, false⟩

theorem rcount_le (n m : Nat) : ∀ i, rcount n m i ≤ i := by
  intro i
  induction i with
  | zero => simp [rcount]
  | succ i ih => rw [rcount]; split <;> omega
theorem lt_st (notes : List (List UInt8)) (n : Int) (h0 h1 : Nat) (e i : Int) (k : Nat) (hk : h0 < k ∧ h1 < k) : ∀ p ∈ ([(1, .lst 1 (strG notes)), (5, vi n), (6, .ptr h0 0 0), (8, .ptr h1 0 0), (9, vi e), (10, vi i)] : List (Nat × AV)), Lt k p.2 := fun p hp => by
  simp only [List.mem_cons, List.not_mem_nil, or_false] at hp
  rcases hp with rfl | rfl | rfl | rfl | rfl | rfl
  all_goals first | exact .v _ | exact lt_str _ | exact .ptr _ _ _ (by omega)
theorem lt_bx (s : List (List UInt8)) (f : Int) (d : Bool) (a b : Int) (c : List UInt8) (k : Nat) : ∀ bx ∈ ([⟨[.lst 64 (secG s), vi f, vb d], 0, 0, false⟩, ⟨[vi a, vi b, vs c], 0, 0, false⟩] : List Box), ∀ c ∈ bx.cells, Lt k c := fun bx hbx c' hc' => by
  simp only [List.mem_cons, List.not_mem_nil, or_false] at hbx
  rcases hbx with rfl | rfl <;> simp only [List.mem_cons, List.not_mem_nil, or_false] at hc' <;> rcases hc' with rfl | rfl | rfl
  all_goals first | exact .v _ | exact lt_sec _
theorem lt_st2 (notes : List (List UInt8)) (n : Int) (h0 h1 h2 : Nat) (e g i : Int) (k : Nat) (hk : h0 < k ∧ h1 < k ∧ h2 < k) {j : Int} : ∀ p ∈ ([(1, .lst 1 (strG notes)), (5, vi n), (6, .ptr h0 0 0), (8, .ptr h1 0 0), (9, vi e), (14, .ptr h2 0 0), (15, vi g), (16, vi i), (17, vi j)] : List (Nat × AV)), Lt k p.2 := fun p hp => by
  simp only [List.mem_cons, List.not_mem_nil, or_false] at hp
  rcases hp with rfl | rfl | rfl | rfl | rfl | rfl | rfl | rfl | rfl
  all_goals first | exact .v _ | exact lt_str _ | exact .ptr _ _ _ (by omega)
theorem lt_bx2 (s : List (List UInt8)) (f : Int) (d : Bool) (a b : Int) (c : List UInt8) (a' b' : Int) (c' : List UInt8) (k : Nat) : ∀ bx ∈ ([⟨[.lst 64 (secG s), vi f, vb d], 0, 0, false⟩, ⟨[vi a, vi b, vs c], 0, 0, false⟩, ⟨[vi a', vi b', vs c'], 0, 0, false⟩] : List Box), ∀ c ∈ bx.cells, Lt k c := fun bx hbx c' hc' => by
  simp only [List.mem_cons, List.not_mem_nil, or_false] at hbx
  rcases hbx with rfl | rfl | rfl <;> simp only [List.mem_cons, List.not_mem_nil, or_false] at hc' <;> rcases hc' with rfl | rfl | rfl
  all_goals first | exact .v _ | exact lt_sec _

set_option maxHeartbeats 8000000 in
theorem rings_spec (k : Int) (notes : List (List UInt8)) (hk0 : 0 ≤ k) (hk1 : k ≤ 255) (hno : notes.length ≤ 9223372036854775807) (hno' : ∀ x ∈ notes, x.length ≤ 9223372036854775807) (H : List Box) :
    ASpec Try.prog 6 [.v (.int .u8 k), .lst 1 (strG notes)] H (Gives (vb true) H) := by
  by_cases h100 : (100 : Int) < (notes.length : Int)
  · intro base
    refine acall_body Try.func6 rfl (fun a w => Try.call6 a w) Try.ntmps6 Try.results6 (by simp) ?_
    intro w β hI
    simp only [number]
    repeat' (first
      | (refine AWP.seq ?_)
      | (refine AWP.block ?_)
      | (refine AWP.drawH_k (id := 13) 2 [(.same, [2, 3]), (.same, [2, 3]), (.same, [2, 3]), (.same, [2, 3]), (.same, [2, 3]), (.same, [2, 3]), (.same, [2, 3]), (.same, [2, 3]), (.same, [2, 3]), (.same, [2, 3]), (.same, [2, 3]), (.same, [2, 3]), (.same, [2, 3]), (.same, [2, 3]), (.same, [2, 3]), (.new 2, [3]), (.new 3, [2]), (.wr 2, []), (.wr 3, []), (.same, [])] rfl (by decide +kernel) fun Q' hQ' => ?_)
      | (refine AWP.drawH0_k (id := 13) 2 [(.same, [2, 3]), (.same, [2, 3]), (.same, [2, 3]), (.same, [2, 3]), (.same, [2, 3]), (.same, [2, 3]), (.same, [2, 3]), (.same, [2, 3]), (.same, [2, 3]), (.same, [2, 3]), (.same, [2, 3]), (.same, [2, 3]), (.same, [2, 3]), (.same, [2, 3]), (.same, [2, 3]), (.new 2, [3]), (.new 3, [2]), (.wr 2, []), (.wr 3, []), (.same, [])] rfl (by decide +kernel) fun Q' hQ' => ?_)
      | (refine AWP.drawH_k (id := 16) 0 [(.same, []), (.same, [0]), (.wr 0, []), (.wr 1, [])] rfl (by decide +kernel) fun Q' hQ' => ?_)
      | (refine AWP.drawH0_k (id := 16) 0 [(.same, []), (.same, [0]), (.wr 0, []), (.wr 1, [])] rfl (by decide +kernel) fun Q' hQ' => ?_)
      | (with_reducible refine hops.step fun T hT => ?_; simp (disch := omega) only [hone, hskip, patch, hole, List.headD_cons, List.tail_cons, Prod.mk.injEq, eq_self, and_assoc, exists_and_left, List.append_cancel_left_eq, List.cons.injEq, go_sem, Nat.reduceBEq, Nat.reduceLT, Nat.reduceEqDiff, reduceIte, Nat.reduceAdd, Nat.reduceMul, Nat.reduceSub, Nat.reduceLeDiff, Int.reduceToNat, Int.reducePow, Int.reduceLT, Int.reduceEq, Int.reduceNeg, Nat.reducePow, List.reduceReplicate, Int.reduceLE, h100])
      | (with_reducible refine hops.nil ?_)
      | (with_reducible refine hT _ _ ?_; clear hT T)
      | (refine AWP.region_k fun Q' hQ' => ?_)
      | (refine AWP.drawT_k rfl (by decide +kernel) fun Q' hQ' => ?_; simp only [List.length_cons, List.length_nil, Nat.reduceAdd, Nat.reduceSub, List.take_succ_cons, List.take_zero, List.drop_succ_cons, List.drop_zero])
      | (refine AWP.draw_k rfl (by kernel_rfl) fun Q' hQ' => ?_)
      | (with_reducible refine aops.step fun T hT => ?_; simp (disch := omega) only [go_sem, Nat.reduceBEq, Nat.reduceLT, Nat.reduceEqDiff, reduceIte, Nat.reduceAdd, Nat.reduceMul, Nat.reduceSub, Nat.reduceLeDiff, Int.reduceToNat, Int.reducePow, Int.reduceLT, Int.reduceEq, Int.reduceNeg, Nat.reducePow, List.reduceReplicate, Int.reduceLE, h100])
      | (with_reducible refine qops.step fun T hT => ?_; simp (disch := omega) only [go_sem, Nat.reduceBEq, Nat.reduceLT, Nat.reduceEqDiff, reduceIte, Nat.reduceAdd, Nat.reduceMul, Nat.reduceSub, Nat.reduceLeDiff, Int.reduceToNat, Int.reducePow, Int.reduceLT, Int.reduceEq, Int.reduceNeg, Nat.reducePow, List.reduceReplicate, Int.reduceLE, h100])
      | (with_reducible refine aops.nil ?_)
      | (with_reducible refine qops.nil ?_)
      | (with_reducible refine hT _ ?_; clear hT T)
      | (refine AWP.skip ?_; try simp only [AExit.then, AExit.inBlock, reduceIte, Nat.reduceEqDiff])
      | (refine AWP.exit ?_; try simp only [AExit.then, AExit.inBlock, reduceIte, Nat.reduceEqDiff])
      | (refine AWP.ret ?_; try simp only [AExit.then, AExit.inBlock, reduceIte, Nat.reduceEqDiff])
      | (refine AWP.cond rfl (fun h => ?_) (fun h => ?_) <;> (try simp only [decide_eq_true_eq, decide_eq_false_iff_not, Bool.true_eq_false, Bool.false_eq_true] at h) <;> (try contradiction))
      | (refine hQ' _ _ ?_; clear hQ' Q'; try simp only [AExit.then, AExit.inBlock, reduceIte, Nat.reduceEqDiff])
      | (refine hQ' _ ?_; clear hQ' Q'; try simp only [AExit.then, AExit.inBlock, reduceIte, Nat.reduceEqDiff])
      | (with_reducible refine Branch.split (fun h => ?_) (fun h => ?_) <;> (try simp only [decide_eq_true_eq, decide_eq_false_iff_not, Bool.not_true, Bool.not_false, Bool.true_eq_false, Bool.false_eq_true] at h) <;> (try contradiction) <;> (simp (disch := omega) only [go_sem, Nat.reduceBEq, Nat.reduceLT, Nat.reduceEqDiff, reduceIte, Nat.reduceAdd, Nat.reduceMul, Nat.reduceSub, Nat.reduceLeDiff, Int.reduceToNat, Int.reducePow, Int.reduceLT, Int.reduceEq, Int.reduceNeg, Nat.reducePow, List.reduceReplicate, Int.reduceLE, h, h100]))
      | (with_reducible intro h; try simp only [h, go_sem, Nat.reduceBEq, Nat.reduceLT, Nat.reduceEqDiff, reduceIte, Nat.reduceAdd, Nat.reduceMul, Nat.reduceSub, Nat.reduceLeDiff, Int.reduceToNat, Int.reducePow, Int.reduceLT, Int.reduceEq, Int.reduceNeg, Nat.reducePow, List.reduceReplicate, Int.reduceLE, h100])
      | ((first | (with_reducible refine acall.det (aliveJ_spec _) ?_) | (with_reducible refine qcall.det (aliveJ_spec _) ?_)); try simp (disch := omega) only [go_sem, Nat.reduceBEq, Nat.reduceLT, Nat.reduceEqDiff, reduceIte, Nat.reduceAdd, Nat.reduceMul, Nat.reduceSub, Nat.reduceLeDiff, Int.reduceToNat, Int.reducePow, Int.reduceLT, Int.reduceEq, Int.reduceNeg, Nat.reducePow, List.reduceReplicate, Int.reduceLE, h100])
      | ((first | (with_reducible refine hcall.det (fun _ => aliveJ_spec _) ?_)); try simp (disch := omega) only [go_sem, Nat.reduceBEq, Nat.reduceLT, Nat.reduceEqDiff, reduceIte, Nat.reduceAdd, Nat.reduceMul, Nat.reduceSub, Nat.reduceLeDiff, Int.reduceToNat, Int.reducePow, Int.reduceLT, Int.reduceEq, Int.reduceNeg, Nat.reducePow, List.reduceReplicate, Int.reduceLE, h100]))
    simp only [bodyQ, go_sem, Nat.reduceBEq, Nat.reduceLT, Nat.reduceEqDiff, reduceIte, Nat.reduceAdd, Nat.reduceMul, Nat.reduceSub, Nat.reduceLeDiff, Int.reduceToNat, Int.reducePow, Int.reduceLT, Int.reduceEq, Int.reduceNeg, Nat.reducePow, List.reduceReplicate, Int.reduceLE]
    exact Fin.same ⟨rfl, rfl⟩
  obtain ⟨n, hn, hn0, hn1⟩ : ∃ n : Nat, 2 + k % 6 = (n : Int) ∧ 2 ≤ n ∧ n ≤ 7 := ⟨(2 + k % 6).toNat, by omega, by omega, by omega⟩
  have hnew := fun H => new_spec n (by omega) (by omega) H
  have hnew : ∀ H, ASpec Try.prog 23 [vi n] H (Gives (.tup [.agg [.lst 64 (secG (rsec n (rrec notes) 0)), vi (-1), vb false], vi 0]) H) := hnew
  have hr1 : rok (rrec notes) 1 := rrec_ok (by omega) (fun j h => by omega)
  have hfmt := fun H => format_spec (rdisk n (rrec notes) 0) [] (by dsimp only; rw [rsec_length]; omega) (by dsimp only; omega) (rsec_all64 (R := rrec notes) 0 (fun s h1 h2 => by omega)) (by decide) H
  simp only [ring_format (R := rrec notes) hn0 (show n ≤ 64 by omega) rfl] at hfmt
  have hfmt : ∀ H, ASpec Try.prog 18 [.agg [.lst 64 (secG (rsec n (rrec notes) 0)), vi (-1), vb false], vs []] H (Gives (.tup [.agg [.lst 64 (secG (rsec n (rrec notes) 1)), vi (-1), vb false], .agg [vi 1, vi 1, vs []], vi 0]) H) := hfmt
  intro base
  refine acall_body Try.func6 rfl (fun a w => Try.call6 a w) Try.ntmps6 Try.results6 (by simp) ?_
  intro w β hI
  simp only [number]
  repeat' (first
    | (refine AWP.seq ?_)
    | (refine AWP.block ?_)
    | (refine AWP.drawH_k (id := 13) 2 [(.same, [2, 3]), (.same, [2, 3]), (.same, [2, 3]), (.same, [2, 3]), (.same, [2, 3]), (.same, [2, 3]), (.same, [2, 3]), (.same, [2, 3]), (.same, [2, 3]), (.same, [2, 3]), (.same, [2, 3]), (.same, [2, 3]), (.same, [2, 3]), (.same, [2, 3]), (.same, [2, 3]), (.new 2, [3]), (.new 3, [2]), (.wr 2, []), (.wr 3, []), (.same, [])] rfl (by decide +kernel) fun Q' hQ' => ?_)
    | (refine AWP.drawH0_k (id := 13) 2 [(.same, [2, 3]), (.same, [2, 3]), (.same, [2, 3]), (.same, [2, 3]), (.same, [2, 3]), (.same, [2, 3]), (.same, [2, 3]), (.same, [2, 3]), (.same, [2, 3]), (.same, [2, 3]), (.same, [2, 3]), (.same, [2, 3]), (.same, [2, 3]), (.same, [2, 3]), (.same, [2, 3]), (.new 2, [3]), (.new 3, [2]), (.wr 2, []), (.wr 3, []), (.same, [])] rfl (by decide +kernel) fun Q' hQ' => ?_)
    | (refine AWP.drawH_k (id := 16) 0 [(.same, []), (.same, [0]), (.wr 0, []), (.wr 1, [])] rfl (by decide +kernel) fun Q' hQ' => ?_)
    | (refine AWP.drawH0_k (id := 16) 0 [(.same, []), (.same, [0]), (.wr 0, []), (.wr 1, [])] rfl (by decide +kernel) fun Q' hQ' => ?_)
    | (with_reducible refine hops.step fun T hT => ?_; simp (disch := omega) only [hone, hskip, patch, hole, List.headD_cons, List.tail_cons, Prod.mk.injEq, eq_self, and_assoc, exists_and_left, List.append_cancel_left_eq, List.cons.injEq, go_sem, Nat.reduceBEq, Nat.reduceLT, Nat.reduceEqDiff, reduceIte, Nat.reduceAdd, Nat.reduceMul, Nat.reduceSub, Nat.reduceLeDiff, Int.reduceToNat, Int.reducePow, Int.reduceLT, Int.reduceEq, Int.reduceNeg, Nat.reducePow, List.reduceReplicate, Int.reduceLE, h100, hn])
    | (with_reducible refine hops.nil ?_)
    | (with_reducible refine hT _ _ ?_; clear hT T)
    | (refine AWP.region_k fun Q' hQ' => ?_)
    | (refine AWP.drawT_k rfl (by decide +kernel) fun Q' hQ' => ?_; simp only [List.length_cons, List.length_nil, Nat.reduceAdd, Nat.reduceSub, List.take_succ_cons, List.take_zero, List.drop_succ_cons, List.drop_zero])
    | (refine AWP.draw_k rfl (by kernel_rfl) fun Q' hQ' => ?_)
    | (with_reducible refine aops.step fun T hT => ?_; simp (disch := omega) only [go_sem, Nat.reduceBEq, Nat.reduceLT, Nat.reduceEqDiff, reduceIte, Nat.reduceAdd, Nat.reduceMul, Nat.reduceSub, Nat.reduceLeDiff, Int.reduceToNat, Int.reducePow, Int.reduceLT, Int.reduceEq, Int.reduceNeg, Nat.reducePow, List.reduceReplicate, Int.reduceLE, h100, hn])
    | (with_reducible refine qops.step fun T hT => ?_; simp (disch := omega) only [go_sem, Nat.reduceBEq, Nat.reduceLT, Nat.reduceEqDiff, reduceIte, Nat.reduceAdd, Nat.reduceMul, Nat.reduceSub, Nat.reduceLeDiff, Int.reduceToNat, Int.reducePow, Int.reduceLT, Int.reduceEq, Int.reduceNeg, Nat.reducePow, List.reduceReplicate, Int.reduceLE, h100, hn])
    | (with_reducible refine aops.nil ?_)
    | (with_reducible refine qops.nil ?_)
    | (with_reducible refine hT _ ?_; clear hT T)
    | (refine AWP.skip ?_; try simp only [AExit.then, AExit.inBlock, reduceIte, Nat.reduceEqDiff])
    | (refine AWP.exit ?_; try simp only [AExit.then, AExit.inBlock, reduceIte, Nat.reduceEqDiff])
    | (refine AWP.ret ?_; try simp only [AExit.then, AExit.inBlock, reduceIte, Nat.reduceEqDiff])
    | (refine AWP.cond rfl (fun h => ?_) (fun h => ?_) <;> (try simp only [decide_eq_true_eq, decide_eq_false_iff_not, Bool.true_eq_false, Bool.false_eq_true] at h) <;> (try contradiction))
    | (refine hQ' _ _ ?_; clear hQ' Q'; try simp only [AExit.then, AExit.inBlock, reduceIte, Nat.reduceEqDiff])
    | (refine hQ' _ ?_; clear hQ' Q'; try simp only [AExit.then, AExit.inBlock, reduceIte, Nat.reduceEqDiff])
    | (with_reducible refine Branch.split (fun h => ?_) (fun h => ?_) <;> (try simp only [decide_eq_true_eq, decide_eq_false_iff_not, Bool.not_true, Bool.not_false, Bool.true_eq_false, Bool.false_eq_true] at h) <;> (try contradiction) <;> (simp (disch := omega) only [go_sem, Nat.reduceBEq, Nat.reduceLT, Nat.reduceEqDiff, reduceIte, Nat.reduceAdd, Nat.reduceMul, Nat.reduceSub, Nat.reduceLeDiff, Int.reduceToNat, Int.reducePow, Int.reduceLT, Int.reduceEq, Int.reduceNeg, Nat.reducePow, List.reduceReplicate, Int.reduceLE, h, h100, hn]))
    | (with_reducible intro h; try simp only [h, go_sem, Nat.reduceBEq, Nat.reduceLT, Nat.reduceEqDiff, reduceIte, Nat.reduceAdd, Nat.reduceMul, Nat.reduceSub, Nat.reduceLeDiff, Int.reduceToNat, Int.reducePow, Int.reduceLT, Int.reduceEq, Int.reduceNeg, Nat.reducePow, List.reduceReplicate, Int.reduceLE, h100, hn])
    | ((first | (with_reducible refine acall.det (aliveJ_spec _) ?_) | (with_reducible refine qcall.det (aliveJ_spec _) ?_) | (with_reducible refine acall.det (hnew _) ?_) | (with_reducible refine qcall.det (hnew _) ?_) | (with_reducible refine acall.det (hfmt _) ?_) | (with_reducible refine qcall.det (hfmt _) ?_)); try simp (disch := omega) only [go_sem, Nat.reduceBEq, Nat.reduceLT, Nat.reduceEqDiff, reduceIte, Nat.reduceAdd, Nat.reduceMul, Nat.reduceSub, Nat.reduceLeDiff, Int.reduceToNat, Int.reducePow, Int.reduceLT, Int.reduceEq, Int.reduceNeg, Nat.reducePow, List.reduceReplicate, Int.reduceLE, h100, hn])
    | ((first | (with_reducible refine hcall.det (fun _ => aliveJ_spec _) ?_) | (with_reducible refine hcall.det (fun _ => hnew _) ?_) | (with_reducible refine hcall.det (fun _ => hfmt _) ?_)); try simp (disch := omega) only [go_sem, Nat.reduceBEq, Nat.reduceLT, Nat.reduceEqDiff, reduceIte, Nat.reduceAdd, Nat.reduceMul, Nat.reduceSub, Nat.reduceLeDiff, Int.reduceToNat, Int.reducePow, Int.reduceLT, Int.reduceEq, Int.reduceNeg, Nat.reducePow, List.reduceReplicate, Int.reduceLE, h100, hn]))
  refine AWP.loop (ι := {i : Nat // i ≤ notes.length ∧ ∀ j, j < i → ((notes[j]?).getD []).length ≤ 30})
    (fun p => ⟨[(1, .lst 1 (strG notes)), (5, vi n), (6, .ptr H.length 0 0), (8, .ptr (H.length + 1) 0 0), (9, vi 0), (10, vi p.1)], H ++ [rbox (rdisk n (rrec notes) (p.1 + 1)), cbox (rrec notes (p.1 + 1))]⟩) (fun p => notes.length - p.1) ⟨0, Nat.zero_le _, fun j h => by omega⟩ ?_ ?_
  · dsimp only [rbox, cbox, rrec]
    refine Coe.keep ?_; simp (disch := omega) only [Keeps, List.mem_cons, List.not_mem_nil, or_false, forall_eq_or_imp, forall_eq, List.length_append, Int.natCast_add, Int.natCast_one, Int.add_sub_cancel, Int.reduceSub, Int.reduceAdd, go_sem, Nat.reduceBEq, Nat.reduceLT, Nat.reduceEqDiff, reduceIte, Nat.reduceAdd, Nat.reduceMul, Nat.reduceSub, Nat.reduceLeDiff, Int.reduceToNat, Int.reducePow, Int.reduceLT, Int.reduceEq, Int.reduceNeg, Nat.reducePow, List.reduceReplicate, Int.reduceLE]
  · rintro ⟨i, hi, hall⟩
    obtain ⟨no, hR1⟩ : ∃ no, rrec notes (i + 1) = ⟨(i : Int) + 1, rgen i, no⟩ := by
      cases i with
      | zero => exact ⟨[], rfl⟩
      | succ i => exact ⟨_, by rw [rrec]; congr 1⟩
    dsimp only [rbox, cbox]
    rw [hR1]
    dsimp only
    by_cases hc : (i : Int) < (notes.length : Int)
    · have hg : notes[i]? = some notes[i] := List.getElem?_eq_getElem (by omega)
      have hnl := hno' notes[i] (List.getElem_mem _)
      generalize notes[i] = note at hg hnl
      by_cases h30 : (30 : Int) < (note.length : Int)
      · repeat' (first
          | (refine AWP.seq ?_)
          | (refine AWP.block ?_)
          | (refine AWP.drawH_k (id := 13) 2 [(.same, [2, 3]), (.same, [2, 3]), (.same, [2, 3]), (.same, [2, 3]), (.same, [2, 3]), (.same, [2, 3]), (.same, [2, 3]), (.same, [2, 3]), (.same, [2, 3]), (.same, [2, 3]), (.same, [2, 3]), (.same, [2, 3]), (.same, [2, 3]), (.same, [2, 3]), (.same, [2, 3]), (.new 2, [3]), (.new 3, [2]), (.wr 2, []), (.wr 3, []), (.same, [])] rfl (by decide +kernel) fun Q' hQ' => ?_)
          | (refine AWP.drawH0_k (id := 13) 2 [(.same, [2, 3]), (.same, [2, 3]), (.same, [2, 3]), (.same, [2, 3]), (.same, [2, 3]), (.same, [2, 3]), (.same, [2, 3]), (.same, [2, 3]), (.same, [2, 3]), (.same, [2, 3]), (.same, [2, 3]), (.same, [2, 3]), (.same, [2, 3]), (.same, [2, 3]), (.same, [2, 3]), (.new 2, [3]), (.new 3, [2]), (.wr 2, []), (.wr 3, []), (.same, [])] rfl (by decide +kernel) fun Q' hQ' => ?_)
          | (refine AWP.drawH_k (id := 16) 0 [(.same, []), (.same, [0]), (.wr 0, []), (.wr 1, [])] rfl (by decide +kernel) fun Q' hQ' => ?_)
          | (refine AWP.drawH0_k (id := 16) 0 [(.same, []), (.same, [0]), (.wr 0, []), (.wr 1, [])] rfl (by decide +kernel) fun Q' hQ' => ?_)
          | (with_reducible refine hops.step fun T hT => ?_; simp (disch := omega) only [hone, hskip, patch, hole, List.headD_cons, List.tail_cons, Prod.mk.injEq, eq_self, and_assoc, exists_and_left, List.append_cancel_left_eq, List.cons.injEq, go_sem, Nat.reduceBEq, Nat.reduceLT, Nat.reduceEqDiff, reduceIte, Nat.reduceAdd, Nat.reduceMul, Nat.reduceSub, Nat.reduceLeDiff, Int.reduceToNat, Int.reducePow, Int.reduceLT, Int.reduceEq, Int.reduceNeg, Nat.reducePow, List.reduceReplicate, Int.reduceLE, hc, hg, h30])
          | (with_reducible refine hops.nil ?_)
          | (with_reducible refine hT _ _ ?_; clear hT T)
          | (refine AWP.region_k fun Q' hQ' => ?_)
          | (refine AWP.drawT_k rfl (by decide +kernel) fun Q' hQ' => ?_; simp only [List.length_cons, List.length_nil, Nat.reduceAdd, Nat.reduceSub, List.take_succ_cons, List.take_zero, List.drop_succ_cons, List.drop_zero])
          | (refine AWP.draw_k rfl (by kernel_rfl) fun Q' hQ' => ?_)
          | (with_reducible refine aops.step fun T hT => ?_; simp (disch := omega) only [go_sem, Nat.reduceBEq, Nat.reduceLT, Nat.reduceEqDiff, reduceIte, Nat.reduceAdd, Nat.reduceMul, Nat.reduceSub, Nat.reduceLeDiff, Int.reduceToNat, Int.reducePow, Int.reduceLT, Int.reduceEq, Int.reduceNeg, Nat.reducePow, List.reduceReplicate, Int.reduceLE, hc, hg, h30])
          | (with_reducible refine qops.step fun T hT => ?_; simp (disch := omega) only [go_sem, Nat.reduceBEq, Nat.reduceLT, Nat.reduceEqDiff, reduceIte, Nat.reduceAdd, Nat.reduceMul, Nat.reduceSub, Nat.reduceLeDiff, Int.reduceToNat, Int.reducePow, Int.reduceLT, Int.reduceEq, Int.reduceNeg, Nat.reducePow, List.reduceReplicate, Int.reduceLE, hc, hg, h30])
          | (with_reducible refine aops.nil ?_)
          | (with_reducible refine qops.nil ?_)
          | (with_reducible refine hT _ ?_; clear hT T)
          | (refine AWP.skip ?_; try simp only [AExit.then, AExit.inBlock, reduceIte, Nat.reduceEqDiff])
          | (refine AWP.exit ?_; try simp only [AExit.then, AExit.inBlock, reduceIte, Nat.reduceEqDiff])
          | (refine AWP.ret ?_; try simp only [AExit.then, AExit.inBlock, reduceIte, Nat.reduceEqDiff])
          | (refine AWP.cond rfl (fun h => ?_) (fun h => ?_) <;> (try simp only [decide_eq_true_eq, decide_eq_false_iff_not, Bool.true_eq_false, Bool.false_eq_true] at h) <;> (try contradiction))
          | (refine hQ' _ _ ?_; clear hQ' Q'; try simp only [AExit.then, AExit.inBlock, reduceIte, Nat.reduceEqDiff])
          | (refine hQ' _ ?_; clear hQ' Q'; try simp only [AExit.then, AExit.inBlock, reduceIte, Nat.reduceEqDiff])
          | (with_reducible refine Branch.split (fun h => ?_) (fun h => ?_) <;> (try simp only [decide_eq_true_eq, decide_eq_false_iff_not, Bool.not_true, Bool.not_false, Bool.true_eq_false, Bool.false_eq_true] at h) <;> (try contradiction) <;> (simp (disch := omega) only [go_sem, Nat.reduceBEq, Nat.reduceLT, Nat.reduceEqDiff, reduceIte, Nat.reduceAdd, Nat.reduceMul, Nat.reduceSub, Nat.reduceLeDiff, Int.reduceToNat, Int.reducePow, Int.reduceLT, Int.reduceEq, Int.reduceNeg, Nat.reducePow, List.reduceReplicate, Int.reduceLE, h, hc, hg, h30]))
          | (with_reducible intro h; try simp only [h, go_sem, Nat.reduceBEq, Nat.reduceLT, Nat.reduceEqDiff, reduceIte, Nat.reduceAdd, Nat.reduceMul, Nat.reduceSub, Nat.reduceLeDiff, Int.reduceToNat, Int.reducePow, Int.reduceLT, Int.reduceEq, Int.reduceNeg, Nat.reducePow, List.reduceReplicate, Int.reduceLE, hc, hg, h30]))
        simp only [bodyQ, go_sem, Nat.reduceBEq, Nat.reduceLT, Nat.reduceEqDiff, reduceIte, Nat.reduceAdd, Nat.reduceMul, Nat.reduceSub, Nat.reduceLeDiff, Int.reduceToNat, Int.reducePow, Int.reduceLT, Int.reduceEq, Int.reduceNeg, Nat.reducePow, List.reduceReplicate, Int.reduceLE]
        exact Fin.cut (.v _) ⟨rfl, rfl⟩
      have hok : ∀ j, j < i + 1 → ((notes[j]?).getD []).length ≤ 30 := fun j hj => by
        by_cases hji : j = i
        · rw [hji, hg]; dsimp only [Option.getD]; omega
        · exact hall j (by omega)
      have hr : rok (rrec notes) (i + 1 + 1) := rrec_ok (by omega) (fun j h => hok j (by omega))
      have hgen : rgen (i + 1) = rgen i + (i : Int) % 2 := by rw [rgen]; omega
      have hR2 : rrec notes (i + 1 + 1) = ⟨((i + 1 + 1 : Nat) : Int), rgen i + (i : Int) % 2, note⟩ := by
        show (⟨((i + 2 : Nat) : Int), rgen (i + 1), (notes[i]?).getD []⟩ : Rc) = _
        rw [hg, hgen]; rfl
      have hb := rgen_bounds i
      have hw := fun H => write_spec (rdisk n (rrec notes) (i + 1)) (rgen i + (i : Int) % 2) note (by dsimp only; rw [rsec_length]; omega) (by dsimp only; omega) (rsec_all64 (R := rrec notes) (i + 1) (fun s h1 h2 => (hr s h1 (by omega)).1)) hnl H
      simp only [ring_write (R := rrec notes) hn0 (show n ≤ 64 by omega) (show 1 ≤ i + 1 by omega) hr hR2 (by rw [hR1]; dsimp only; omega), hR2] at hw
      have e2 : ((i + 1 + 1 : Nat) : Int) = (i : Int) + 2 := by omega
      rw [e2] at hw hR2
      have hw : ∀ H, ASpec Try.prog 14 [.agg [.lst 64 (secG (rsec n (rrec notes) (i + 1))), vi (-1), vb false], vi (rgen i + (i : Int) % 2), vs note] H (Gives (.tup [.agg [.lst 64 (secG (rsec n (rrec notes) (i + 1 + 1))), vi (-1), vb false], .agg [vi ((i : Int) + 2), vi (rgen i + (i : Int) % 2), vs note], vi 0]) H) := hw
      repeat' (first
        | (refine AWP.seq ?_)
        | (refine AWP.block ?_)
        | (refine AWP.drawH_k (id := 13) 2 [(.same, [2, 3]), (.same, [2, 3]), (.same, [2, 3]), (.same, [2, 3]), (.same, [2, 3]), (.same, [2, 3]), (.same, [2, 3]), (.same, [2, 3]), (.same, [2, 3]), (.same, [2, 3]), (.same, [2, 3]), (.same, [2, 3]), (.same, [2, 3]), (.same, [2, 3]), (.same, [2, 3]), (.new 2, [3]), (.new 3, [2]), (.wr 2, []), (.wr 3, []), (.same, [])] rfl (by decide +kernel) fun Q' hQ' => ?_)
        | (refine AWP.drawH0_k (id := 13) 2 [(.same, [2, 3]), (.same, [2, 3]), (.same, [2, 3]), (.same, [2, 3]), (.same, [2, 3]), (.same, [2, 3]), (.same, [2, 3]), (.same, [2, 3]), (.same, [2, 3]), (.same, [2, 3]), (.same, [2, 3]), (.same, [2, 3]), (.same, [2, 3]), (.same, [2, 3]), (.same, [2, 3]), (.new 2, [3]), (.new 3, [2]), (.wr 2, []), (.wr 3, []), (.same, [])] rfl (by decide +kernel) fun Q' hQ' => ?_)
        | (refine AWP.drawH_k (id := 16) 0 [(.same, []), (.same, [0]), (.wr 0, []), (.wr 1, [])] rfl (by decide +kernel) fun Q' hQ' => ?_)
        | (refine AWP.drawH0_k (id := 16) 0 [(.same, []), (.same, [0]), (.wr 0, []), (.wr 1, [])] rfl (by decide +kernel) fun Q' hQ' => ?_)
        | (with_reducible refine hops.step fun T hT => ?_; simp (disch := omega) only [hone, hskip, patch, hole, List.headD_cons, List.tail_cons, Prod.mk.injEq, eq_self, and_assoc, exists_and_left, List.append_cancel_left_eq, List.cons.injEq, go_sem, Nat.reduceBEq, Nat.reduceLT, Nat.reduceEqDiff, reduceIte, Nat.reduceAdd, Nat.reduceMul, Nat.reduceSub, Nat.reduceLeDiff, Int.reduceToNat, Int.reducePow, Int.reduceLT, Int.reduceEq, Int.reduceNeg, Nat.reducePow, List.reduceReplicate, Int.reduceLE, hc, hg, h30, eq_self])
        | (with_reducible refine hops.nil ?_)
        | (with_reducible refine hT _ _ ?_; clear hT T)
        | (refine AWP.region_k fun Q' hQ' => ?_)
        | (refine AWP.drawT_k rfl (by decide +kernel) fun Q' hQ' => ?_; simp only [List.length_cons, List.length_nil, Nat.reduceAdd, Nat.reduceSub, List.take_succ_cons, List.take_zero, List.drop_succ_cons, List.drop_zero])
        | (refine AWP.draw_k rfl (by kernel_rfl) fun Q' hQ' => ?_)
        | (with_reducible refine aops.step fun T hT => ?_; simp (disch := omega) only [go_sem, Nat.reduceBEq, Nat.reduceLT, Nat.reduceEqDiff, reduceIte, Nat.reduceAdd, Nat.reduceMul, Nat.reduceSub, Nat.reduceLeDiff, Int.reduceToNat, Int.reducePow, Int.reduceLT, Int.reduceEq, Int.reduceNeg, Nat.reducePow, List.reduceReplicate, Int.reduceLE, hc, hg, h30, eq_self])
        | (with_reducible refine qops.step fun T hT => ?_; simp (disch := omega) only [go_sem, Nat.reduceBEq, Nat.reduceLT, Nat.reduceEqDiff, reduceIte, Nat.reduceAdd, Nat.reduceMul, Nat.reduceSub, Nat.reduceLeDiff, Int.reduceToNat, Int.reducePow, Int.reduceLT, Int.reduceEq, Int.reduceNeg, Nat.reducePow, List.reduceReplicate, Int.reduceLE, hc, hg, h30, eq_self])
        | (with_reducible refine aops.nil ?_)
        | (with_reducible refine qops.nil ?_)
        | (with_reducible refine hT _ ?_; clear hT T)
        | (refine AWP.skip ?_; try simp only [AExit.then, AExit.inBlock, reduceIte, Nat.reduceEqDiff])
        | (refine AWP.exit ?_; try simp only [AExit.then, AExit.inBlock, reduceIte, Nat.reduceEqDiff])
        | (refine AWP.ret ?_; try simp only [AExit.then, AExit.inBlock, reduceIte, Nat.reduceEqDiff])
        | (refine AWP.cond rfl (fun h => ?_) (fun h => ?_) <;> (try simp only [decide_eq_true_eq, decide_eq_false_iff_not, Bool.true_eq_false, Bool.false_eq_true] at h) <;> (try contradiction))
        | (refine hQ' _ _ ?_; clear hQ' Q'; try simp only [AExit.then, AExit.inBlock, reduceIte, Nat.reduceEqDiff])
        | (refine hQ' _ ?_; clear hQ' Q'; try simp only [AExit.then, AExit.inBlock, reduceIte, Nat.reduceEqDiff])
        | (with_reducible refine Branch.split (fun h => ?_) (fun h => ?_) <;> (try simp only [decide_eq_true_eq, decide_eq_false_iff_not, Bool.not_true, Bool.not_false, Bool.true_eq_false, Bool.false_eq_true] at h) <;> (try contradiction) <;> (simp (disch := omega) only [go_sem, Nat.reduceBEq, Nat.reduceLT, Nat.reduceEqDiff, reduceIte, Nat.reduceAdd, Nat.reduceMul, Nat.reduceSub, Nat.reduceLeDiff, Int.reduceToNat, Int.reducePow, Int.reduceLT, Int.reduceEq, Int.reduceNeg, Nat.reducePow, List.reduceReplicate, Int.reduceLE, h, hc, hg, h30, eq_self]))
        | (with_reducible intro h; try simp only [h, go_sem, Nat.reduceBEq, Nat.reduceLT, Nat.reduceEqDiff, reduceIte, Nat.reduceAdd, Nat.reduceMul, Nat.reduceSub, Nat.reduceLeDiff, Int.reduceToNat, Int.reducePow, Int.reduceLT, Int.reduceEq, Int.reduceNeg, Nat.reducePow, List.reduceReplicate, Int.reduceLE, hc, hg, h30, eq_self])
        | ((first | (with_reducible refine acall.det (hw _) ?_) | (with_reducible refine qcall.det (hw _) ?_)); try simp (disch := omega) only [go_sem, Nat.reduceBEq, Nat.reduceLT, Nat.reduceEqDiff, reduceIte, Nat.reduceAdd, Nat.reduceMul, Nat.reduceSub, Nat.reduceLeDiff, Int.reduceToNat, Int.reducePow, Int.reduceLT, Int.reduceEq, Int.reduceNeg, Nat.reducePow, List.reduceReplicate, Int.reduceLE, hc, hg, h30, eq_self])
        | ((first | (with_reducible refine hcall.det (fun _ => hw _) ?_)); try simp (disch := omega) only [go_sem, Nat.reduceBEq, Nat.reduceLT, Nat.reduceEqDiff, reduceIte, Nat.reduceAdd, Nat.reduceMul, Nat.reduceSub, Nat.reduceLeDiff, Int.reduceToNat, Int.reducePow, Int.reduceLT, Int.reduceEq, Int.reduceNeg, Nat.reducePow, List.reduceReplicate, Int.reduceLE, hc, hg, h30, eq_self]))
      refine ⟨⟨i + 1, by omega, hok⟩, ?_, by dsimp only; omega⟩
      dsimp only
      rw [hR2]
      refine Coe.cutN (M := [_, _]) ?_ (lt_st _ _ _ _ _ _ _ (by simp)) (lt_bx _ _ _ _ _ _ _)
      simp (disch := omega) only [Keeps, List.mem_cons, List.not_mem_nil, or_false, forall_eq_or_imp, forall_eq, Int.natCast_add, Int.natCast_one, go_sem, Nat.reduceBEq, Nat.reduceLT, Nat.reduceEqDiff, reduceIte, Nat.reduceAdd, Nat.reduceMul, Nat.reduceSub, Nat.reduceLeDiff, Int.reduceToNat, Int.reducePow, Int.reduceLT, Int.reduceEq, Int.reduceNeg, Nat.reducePow, List.reduceReplicate, Int.reduceLE]
    · have hil : i = notes.length := by omega
      subst hil
      obtain ⟨m, hm⟩ : ∃ m, m = notes.length + 1 := ⟨_, rfl⟩
      rw [← hm] at hR1 ⊢
      have hr : rok (rrec notes) m := rrec_ok (by omega) (fun j h => hall j (by omega))
      have hla := fun H => last_spec (rdisk n (rrec notes) m) (by dsimp only; rw [rsec_length]; omega) (rsec_all64 (R := rrec notes) m (fun s h1 h2 => (hr s h1 h2).1)) H
      simp only [ring_last (R := rrec notes) (show 0 < n by omega) (show n ≤ 64 by omega) (show 1 ≤ m by omega) hr, hR1] at hla
      have hla : ∀ H, ASpec Try.prog 20 [.agg [.lst 64 (secG (rsec n (rrec notes) m)), vi (-1), vb false]] H (Gives (.tup [.agg [vi ((notes.length : Int) + 1), vi (rgen notes.length), vs no], vi 0]) H) := hla
      have hsl := rsec_length n (rrec notes) m
      repeat' (first
        | (refine AWP.seq ?_)
        | (refine AWP.block ?_)
        | (refine AWP.drawH_k (id := 13) 2 [(.same, [2, 3]), (.same, [2, 3]), (.same, [2, 3]), (.same, [2, 3]), (.same, [2, 3]), (.same, [2, 3]), (.same, [2, 3]), (.same, [2, 3]), (.same, [2, 3]), (.same, [2, 3]), (.same, [2, 3]), (.same, [2, 3]), (.same, [2, 3]), (.same, [2, 3]), (.same, [2, 3]), (.new 2, [3]), (.new 3, [2]), (.wr 2, []), (.wr 3, []), (.same, [])] rfl (by decide +kernel) fun Q' hQ' => ?_)
        | (refine AWP.drawH0_k (id := 13) 2 [(.same, [2, 3]), (.same, [2, 3]), (.same, [2, 3]), (.same, [2, 3]), (.same, [2, 3]), (.same, [2, 3]), (.same, [2, 3]), (.same, [2, 3]), (.same, [2, 3]), (.same, [2, 3]), (.same, [2, 3]), (.same, [2, 3]), (.same, [2, 3]), (.same, [2, 3]), (.same, [2, 3]), (.new 2, [3]), (.new 3, [2]), (.wr 2, []), (.wr 3, []), (.same, [])] rfl (by decide +kernel) fun Q' hQ' => ?_)
        | (refine AWP.drawH_k (id := 16) 0 [(.same, []), (.same, [0]), (.wr 0, []), (.wr 1, [])] rfl (by decide +kernel) fun Q' hQ' => ?_)
        | (refine AWP.drawH0_k (id := 16) 0 [(.same, []), (.same, [0]), (.wr 0, []), (.wr 1, [])] rfl (by decide +kernel) fun Q' hQ' => ?_)
        | (with_reducible refine hops.step fun T hT => ?_; simp (disch := omega) only [hone, hskip, patch, hole, List.headD_cons, List.tail_cons, Prod.mk.injEq, eq_self, and_assoc, exists_and_left, List.append_cancel_left_eq, List.cons.injEq, go_sem, Nat.reduceBEq, Nat.reduceLT, Nat.reduceEqDiff, reduceIte, Nat.reduceAdd, Nat.reduceMul, Nat.reduceSub, Nat.reduceLeDiff, Int.reduceToNat, Int.reducePow, Int.reduceLT, Int.reduceEq, Int.reduceNeg, Nat.reducePow, List.reduceReplicate, Int.reduceLE, hc])
        | (with_reducible refine hops.nil ?_)
        | (with_reducible refine hT _ _ ?_; clear hT T)
        | (refine AWP.region_k fun Q' hQ' => ?_)
        | (refine AWP.drawT_k rfl (by decide +kernel) fun Q' hQ' => ?_; simp only [List.length_cons, List.length_nil, Nat.reduceAdd, Nat.reduceSub, List.take_succ_cons, List.take_zero, List.drop_succ_cons, List.drop_zero])
        | (refine AWP.draw_k rfl (by kernel_rfl) fun Q' hQ' => ?_)
        | (with_reducible refine aops.step fun T hT => ?_; simp (disch := omega) only [go_sem, Nat.reduceBEq, Nat.reduceLT, Nat.reduceEqDiff, reduceIte, Nat.reduceAdd, Nat.reduceMul, Nat.reduceSub, Nat.reduceLeDiff, Int.reduceToNat, Int.reducePow, Int.reduceLT, Int.reduceEq, Int.reduceNeg, Nat.reducePow, List.reduceReplicate, Int.reduceLE, hc])
        | (with_reducible refine qops.step fun T hT => ?_; simp (disch := omega) only [go_sem, Nat.reduceBEq, Nat.reduceLT, Nat.reduceEqDiff, reduceIte, Nat.reduceAdd, Nat.reduceMul, Nat.reduceSub, Nat.reduceLeDiff, Int.reduceToNat, Int.reducePow, Int.reduceLT, Int.reduceEq, Int.reduceNeg, Nat.reducePow, List.reduceReplicate, Int.reduceLE, hc])
        | (with_reducible refine aops.nil ?_)
        | (with_reducible refine qops.nil ?_)
        | (with_reducible refine hT _ ?_; clear hT T)
        | (refine AWP.skip ?_; try simp only [AExit.then, AExit.inBlock, reduceIte, Nat.reduceEqDiff])
        | (refine AWP.exit ?_; try simp only [AExit.then, AExit.inBlock, reduceIte, Nat.reduceEqDiff])
        | (refine AWP.ret ?_; try simp only [AExit.then, AExit.inBlock, reduceIte, Nat.reduceEqDiff])
        | (refine AWP.cond rfl (fun h => ?_) (fun h => ?_) <;> (try simp only [decide_eq_true_eq, decide_eq_false_iff_not, Bool.true_eq_false, Bool.false_eq_true] at h) <;> (try contradiction))
        | (refine hQ' _ _ ?_; clear hQ' Q'; try simp only [AExit.then, AExit.inBlock, reduceIte, Nat.reduceEqDiff])
        | (refine hQ' _ ?_; clear hQ' Q'; try simp only [AExit.then, AExit.inBlock, reduceIte, Nat.reduceEqDiff])
        | (with_reducible refine Branch.split (fun h => ?_) (fun h => ?_) <;> (try simp only [decide_eq_true_eq, decide_eq_false_iff_not, Bool.not_true, Bool.not_false, Bool.true_eq_false, Bool.false_eq_true] at h) <;> (try contradiction) <;> (simp (disch := omega) only [go_sem, Nat.reduceBEq, Nat.reduceLT, Nat.reduceEqDiff, reduceIte, Nat.reduceAdd, Nat.reduceMul, Nat.reduceSub, Nat.reduceLeDiff, Int.reduceToNat, Int.reducePow, Int.reduceLT, Int.reduceEq, Int.reduceNeg, Nat.reducePow, List.reduceReplicate, Int.reduceLE, h, hc]))
        | (with_reducible intro h; try simp only [h, go_sem, Nat.reduceBEq, Nat.reduceLT, Nat.reduceEqDiff, reduceIte, Nat.reduceAdd, Nat.reduceMul, Nat.reduceSub, Nat.reduceLeDiff, Int.reduceToNat, Int.reducePow, Int.reduceLT, Int.reduceEq, Int.reduceNeg, Nat.reducePow, List.reduceReplicate, Int.reduceLE, hc])
        | ((first | (with_reducible refine acall.det (hla _) ?_) | (with_reducible refine qcall.det (hla _) ?_)); try simp (disch := omega) only [go_sem, Nat.reduceBEq, Nat.reduceLT, Nat.reduceEqDiff, reduceIte, Nat.reduceAdd, Nat.reduceMul, Nat.reduceSub, Nat.reduceLeDiff, Int.reduceToNat, Int.reducePow, Int.reduceLT, Int.reduceEq, Int.reduceNeg, Nat.reducePow, List.reduceReplicate, Int.reduceLE, hc])
        | ((first | (with_reducible refine hcall.det (fun _ => hla _) ?_)); try simp (disch := omega) only [go_sem, Nat.reduceBEq, Nat.reduceLT, Nat.reduceEqDiff, reduceIte, Nat.reduceAdd, Nat.reduceMul, Nat.reduceSub, Nat.reduceLeDiff, Int.reduceToNat, Int.reducePow, Int.reduceLT, Int.reduceEq, Int.reduceNeg, Nat.reducePow, List.reduceReplicate, Int.reduceLE, hc]))
      refine AWP.loop (ι := {j : Nat // j ≤ n})
        (fun p => ⟨[(1, .lst 1 (strG notes)), (5, vi n), (6, .ptr H.length 0 0), (8, .ptr (H.length + 1) 0 0), (9, vi 0), (14, .ptr (H.length + 2) 0 0), (15, vi 0), (16, vi (rcount n m p.1)), (17, vi p.1)], H ++ [rbox (rdisk n (rrec notes) m), cbox ⟨(notes.length : Int) + 1, rgen notes.length, no⟩, cbox ⟨(notes.length : Int) + 1, rgen notes.length, no⟩]⟩) (fun p => n - p.1) ⟨0, Nat.zero_le _⟩ ?_ ?_
      · dsimp only [rbox, cbox, rcount]
        refine Coe.keep ?_; simp (disch := omega) only [Keeps, List.mem_cons, List.not_mem_nil, or_false, forall_eq_or_imp, forall_eq, List.length_append, Int.natCast_add, Int.natCast_one, Int.add_sub_cancel, Int.reduceSub, Int.reduceAdd, go_sem, Nat.reduceBEq, Nat.reduceLT, Nat.reduceEqDiff, reduceIte, Nat.reduceAdd, Nat.reduceMul, Nat.reduceSub, Nat.reduceLeDiff, Int.reduceToNat, Int.reducePow, Int.reduceLT, Int.reduceEq, Int.reduceNeg, Nat.reducePow, List.reduceReplicate, Int.reduceLE]
      · rintro ⟨j, hj⟩
        dsimp only [rbox, cbox]
        have hrc := rcount_le n m j
        by_cases hcj : (j : Int) < (n : Int)
        · obtain ⟨b, hb, hb64, hbf⟩ := ring_count (n := n) hr (Nat.le_refl _) j (by omega)
          have hbt : b.take 64 = b := List.take_of_length_le (by omega)
          have hfi := fun H => find_spec b hb64 H
          generalize jfind b = x at hfi hbf
          obtain ⟨⟨q, g, nn⟩, e⟩ := x
          dsimp only at hbf
          have hfi : ∀ H, ASpec Try.prog 11 [.agg (bytesC b)] H (Gives (.tup [.agg [vi q, vi g, vs nn], vi e]) H) := hfi
          subst hbf
          by_cases h0 : rtop n m j = 0
          · rw [if_pos h0] at hfi
            have hrc1 : rcount n m (j + 1) = rcount n m j := by rw [rcount, if_pos h0]
            repeat' (first
              | (refine AWP.seq ?_)
              | (refine AWP.block ?_)
              | (refine AWP.drawH_k (id := 13) 2 [(.same, [2, 3]), (.same, [2, 3]), (.same, [2, 3]), (.same, [2, 3]), (.same, [2, 3]), (.same, [2, 3]), (.same, [2, 3]), (.same, [2, 3]), (.same, [2, 3]), (.same, [2, 3]), (.same, [2, 3]), (.same, [2, 3]), (.same, [2, 3]), (.same, [2, 3]), (.same, [2, 3]), (.new 2, [3]), (.new 3, [2]), (.wr 2, []), (.wr 3, []), (.same, [])] rfl (by decide +kernel) fun Q' hQ' => ?_)
              | (refine AWP.drawH0_k (id := 13) 2 [(.same, [2, 3]), (.same, [2, 3]), (.same, [2, 3]), (.same, [2, 3]), (.same, [2, 3]), (.same, [2, 3]), (.same, [2, 3]), (.same, [2, 3]), (.same, [2, 3]), (.same, [2, 3]), (.same, [2, 3]), (.same, [2, 3]), (.same, [2, 3]), (.same, [2, 3]), (.same, [2, 3]), (.new 2, [3]), (.new 3, [2]), (.wr 2, []), (.wr 3, []), (.same, [])] rfl (by decide +kernel) fun Q' hQ' => ?_)
              | (refine AWP.drawH_k (id := 16) 0 [(.same, []), (.same, [0]), (.wr 0, []), (.wr 1, [])] rfl (by decide +kernel) fun Q' hQ' => ?_)
              | (refine AWP.drawH0_k (id := 16) 0 [(.same, []), (.same, [0]), (.wr 0, []), (.wr 1, [])] rfl (by decide +kernel) fun Q' hQ' => ?_)
              | (with_reducible refine hops.step fun T hT => ?_; simp (disch := omega) only [hone, hskip, patch, hole, List.headD_cons, List.tail_cons, Prod.mk.injEq, eq_self, and_assoc, exists_and_left, List.append_cancel_left_eq, List.cons.injEq, go_sem, Nat.reduceBEq, Nat.reduceLT, Nat.reduceEqDiff, reduceIte, Nat.reduceAdd, Nat.reduceMul, Nat.reduceSub, Nat.reduceLeDiff, Int.reduceToNat, Int.reducePow, Int.reduceLT, Int.reduceEq, Int.reduceNeg, Nat.reducePow, List.reduceReplicate, Int.reduceLE, hcj, hsl, hb, hbt, hb64, eq_self])
              | (with_reducible refine hops.nil ?_)
              | (with_reducible refine hT _ _ ?_; clear hT T)
              | (refine AWP.region_k fun Q' hQ' => ?_)
              | (refine AWP.drawT_k rfl (by decide +kernel) fun Q' hQ' => ?_; simp only [List.length_cons, List.length_nil, Nat.reduceAdd, Nat.reduceSub, List.take_succ_cons, List.take_zero, List.drop_succ_cons, List.drop_zero])
              | (refine AWP.draw_k rfl (by kernel_rfl) fun Q' hQ' => ?_)
              | (with_reducible refine aops.step fun T hT => ?_; simp (disch := omega) only [go_sem, Nat.reduceBEq, Nat.reduceLT, Nat.reduceEqDiff, reduceIte, Nat.reduceAdd, Nat.reduceMul, Nat.reduceSub, Nat.reduceLeDiff, Int.reduceToNat, Int.reducePow, Int.reduceLT, Int.reduceEq, Int.reduceNeg, Nat.reducePow, List.reduceReplicate, Int.reduceLE, hcj, hsl, hb, hbt, hb64, eq_self])
              | (with_reducible refine qops.step fun T hT => ?_; simp (disch := omega) only [go_sem, Nat.reduceBEq, Nat.reduceLT, Nat.reduceEqDiff, reduceIte, Nat.reduceAdd, Nat.reduceMul, Nat.reduceSub, Nat.reduceLeDiff, Int.reduceToNat, Int.reducePow, Int.reduceLT, Int.reduceEq, Int.reduceNeg, Nat.reducePow, List.reduceReplicate, Int.reduceLE, hcj, hsl, hb, hbt, hb64, eq_self])
              | (with_reducible refine aops.nil ?_)
              | (with_reducible refine qops.nil ?_)
              | (with_reducible refine hT _ ?_; clear hT T)
              | (refine AWP.skip ?_; try simp only [AExit.then, AExit.inBlock, reduceIte, Nat.reduceEqDiff])
              | (refine AWP.exit ?_; try simp only [AExit.then, AExit.inBlock, reduceIte, Nat.reduceEqDiff])
              | (refine AWP.ret ?_; try simp only [AExit.then, AExit.inBlock, reduceIte, Nat.reduceEqDiff])
              | (refine AWP.cond rfl (fun h => ?_) (fun h => ?_) <;> (try simp only [decide_eq_true_eq, decide_eq_false_iff_not, Bool.true_eq_false, Bool.false_eq_true] at h) <;> (try contradiction))
              | (refine hQ' _ _ ?_; clear hQ' Q'; try simp only [AExit.then, AExit.inBlock, reduceIte, Nat.reduceEqDiff])
              | (refine hQ' _ ?_; clear hQ' Q'; try simp only [AExit.then, AExit.inBlock, reduceIte, Nat.reduceEqDiff])
              | (with_reducible refine Branch.split (fun h => ?_) (fun h => ?_) <;> (try simp only [decide_eq_true_eq, decide_eq_false_iff_not, Bool.not_true, Bool.not_false, Bool.true_eq_false, Bool.false_eq_true] at h) <;> (try contradiction) <;> (simp (disch := omega) only [go_sem, Nat.reduceBEq, Nat.reduceLT, Nat.reduceEqDiff, reduceIte, Nat.reduceAdd, Nat.reduceMul, Nat.reduceSub, Nat.reduceLeDiff, Int.reduceToNat, Int.reducePow, Int.reduceLT, Int.reduceEq, Int.reduceNeg, Nat.reducePow, List.reduceReplicate, Int.reduceLE, h, hcj, hsl, hb, hbt, hb64, eq_self]))
              | (with_reducible intro h; try simp only [h, go_sem, Nat.reduceBEq, Nat.reduceLT, Nat.reduceEqDiff, reduceIte, Nat.reduceAdd, Nat.reduceMul, Nat.reduceSub, Nat.reduceLeDiff, Int.reduceToNat, Int.reducePow, Int.reduceLT, Int.reduceEq, Int.reduceNeg, Nat.reducePow, List.reduceReplicate, Int.reduceLE, hcj, hsl, hb, hbt, hb64, eq_self])
              | ((first | (with_reducible refine acall.det (hfi _) ?_) | (with_reducible refine qcall.det (hfi _) ?_)); try simp (disch := omega) only [go_sem, Nat.reduceBEq, Nat.reduceLT, Nat.reduceEqDiff, reduceIte, Nat.reduceAdd, Nat.reduceMul, Nat.reduceSub, Nat.reduceLeDiff, Int.reduceToNat, Int.reducePow, Int.reduceLT, Int.reduceEq, Int.reduceNeg, Nat.reducePow, List.reduceReplicate, Int.reduceLE, hcj, hsl, hb, hbt, hb64, eq_self])
              | ((first | (with_reducible refine hcall.det (fun _ => hfi _) ?_)); try simp (disch := omega) only [go_sem, Nat.reduceBEq, Nat.reduceLT, Nat.reduceEqDiff, reduceIte, Nat.reduceAdd, Nat.reduceMul, Nat.reduceSub, Nat.reduceLeDiff, Int.reduceToNat, Int.reducePow, Int.reduceLT, Int.reduceEq, Int.reduceNeg, Nat.reducePow, List.reduceReplicate, Int.reduceLE, hcj, hsl, hb, hbt, hb64, eq_self]))
            refine ⟨⟨j + 1, by omega⟩, ?_, by dsimp only; omega⟩
            dsimp only
            rw [hrc1]
            refine Coe.cutN (M := [_, _, _]) ?_ (lt_st2 _ _ _ _ _ _ _ _ _ (by simp)) (lt_bx2 _ _ _ _ _ _ _ _ _ _)
            simp (disch := omega) only [Keeps, List.mem_cons, List.not_mem_nil, or_false, forall_eq_or_imp, forall_eq, Int.natCast_add, Int.natCast_one, go_sem, Nat.reduceBEq, Nat.reduceLT, Nat.reduceEqDiff, reduceIte, Nat.reduceAdd, Nat.reduceMul, Nat.reduceSub, Nat.reduceLeDiff, Int.reduceToNat, Int.reducePow, Int.reduceLT, Int.reduceEq, Int.reduceNeg, Nat.reducePow, List.reduceReplicate, Int.reduceLE]
          · rw [if_neg h0] at hfi
            have hrc1 : rcount n m (j + 1) = rcount n m j + 1 := by rw [rcount, if_neg h0]
            repeat' (first
              | (refine AWP.seq ?_)
              | (refine AWP.block ?_)
              | (refine AWP.drawH_k (id := 13) 2 [(.same, [2, 3]), (.same, [2, 3]), (.same, [2, 3]), (.same, [2, 3]), (.same, [2, 3]), (.same, [2, 3]), (.same, [2, 3]), (.same, [2, 3]), (.same, [2, 3]), (.same, [2, 3]), (.same, [2, 3]), (.same, [2, 3]), (.same, [2, 3]), (.same, [2, 3]), (.same, [2, 3]), (.new 2, [3]), (.new 3, [2]), (.wr 2, []), (.wr 3, []), (.same, [])] rfl (by decide +kernel) fun Q' hQ' => ?_)
              | (refine AWP.drawH0_k (id := 13) 2 [(.same, [2, 3]), (.same, [2, 3]), (.same, [2, 3]), (.same, [2, 3]), (.same, [2, 3]), (.same, [2, 3]), (.same, [2, 3]), (.same, [2, 3]), (.same, [2, 3]), (.same, [2, 3]), (.same, [2, 3]), (.same, [2, 3]), (.same, [2, 3]), (.same, [2, 3]), (.same, [2, 3]), (.new 2, [3]), (.new 3, [2]), (.wr 2, []), (.wr 3, []), (.same, [])] rfl (by decide +kernel) fun Q' hQ' => ?_)
              | (refine AWP.drawH_k (id := 16) 0 [(.same, []), (.same, [0]), (.wr 0, []), (.wr 1, [])] rfl (by decide +kernel) fun Q' hQ' => ?_)
              | (refine AWP.drawH0_k (id := 16) 0 [(.same, []), (.same, [0]), (.wr 0, []), (.wr 1, [])] rfl (by decide +kernel) fun Q' hQ' => ?_)
              | (with_reducible refine hops.step fun T hT => ?_; simp (disch := omega) only [hone, hskip, patch, hole, List.headD_cons, List.tail_cons, Prod.mk.injEq, eq_self, and_assoc, exists_and_left, List.append_cancel_left_eq, List.cons.injEq, go_sem, Nat.reduceBEq, Nat.reduceLT, Nat.reduceEqDiff, reduceIte, Nat.reduceAdd, Nat.reduceMul, Nat.reduceSub, Nat.reduceLeDiff, Int.reduceToNat, Int.reducePow, Int.reduceLT, Int.reduceEq, Int.reduceNeg, Nat.reducePow, List.reduceReplicate, Int.reduceLE, hcj, hsl, hb, hbt, hb64, eq_self])
              | (with_reducible refine hops.nil ?_)
              | (with_reducible refine hT _ _ ?_; clear hT T)
              | (refine AWP.region_k fun Q' hQ' => ?_)
              | (refine AWP.drawT_k rfl (by decide +kernel) fun Q' hQ' => ?_; simp only [List.length_cons, List.length_nil, Nat.reduceAdd, Nat.reduceSub, List.take_succ_cons, List.take_zero, List.drop_succ_cons, List.drop_zero])
              | (refine AWP.draw_k rfl (by kernel_rfl) fun Q' hQ' => ?_)
              | (with_reducible refine aops.step fun T hT => ?_; simp (disch := omega) only [go_sem, Nat.reduceBEq, Nat.reduceLT, Nat.reduceEqDiff, reduceIte, Nat.reduceAdd, Nat.reduceMul, Nat.reduceSub, Nat.reduceLeDiff, Int.reduceToNat, Int.reducePow, Int.reduceLT, Int.reduceEq, Int.reduceNeg, Nat.reducePow, List.reduceReplicate, Int.reduceLE, hcj, hsl, hb, hbt, hb64, eq_self])
              | (with_reducible refine qops.step fun T hT => ?_; simp (disch := omega) only [go_sem, Nat.reduceBEq, Nat.reduceLT, Nat.reduceEqDiff, reduceIte, Nat.reduceAdd, Nat.reduceMul, Nat.reduceSub, Nat.reduceLeDiff, Int.reduceToNat, Int.reducePow, Int.reduceLT, Int.reduceEq, Int.reduceNeg, Nat.reducePow, List.reduceReplicate, Int.reduceLE, hcj, hsl, hb, hbt, hb64, eq_self])
              | (with_reducible refine aops.nil ?_)
              | (with_reducible refine qops.nil ?_)
              | (with_reducible refine hT _ ?_; clear hT T)
              | (refine AWP.skip ?_; try simp only [AExit.then, AExit.inBlock, reduceIte, Nat.reduceEqDiff])
              | (refine AWP.exit ?_; try simp only [AExit.then, AExit.inBlock, reduceIte, Nat.reduceEqDiff])
              | (refine AWP.ret ?_; try simp only [AExit.then, AExit.inBlock, reduceIte, Nat.reduceEqDiff])
              | (refine AWP.cond rfl (fun h => ?_) (fun h => ?_) <;> (try simp only [decide_eq_true_eq, decide_eq_false_iff_not, Bool.true_eq_false, Bool.false_eq_true] at h) <;> (try contradiction))
              | (refine hQ' _ _ ?_; clear hQ' Q'; try simp only [AExit.then, AExit.inBlock, reduceIte, Nat.reduceEqDiff])
              | (refine hQ' _ ?_; clear hQ' Q'; try simp only [AExit.then, AExit.inBlock, reduceIte, Nat.reduceEqDiff])
              | (with_reducible refine Branch.split (fun h => ?_) (fun h => ?_) <;> (try simp only [decide_eq_true_eq, decide_eq_false_iff_not, Bool.not_true, Bool.not_false, Bool.true_eq_false, Bool.false_eq_true] at h) <;> (try contradiction) <;> (simp (disch := omega) only [go_sem, Nat.reduceBEq, Nat.reduceLT, Nat.reduceEqDiff, reduceIte, Nat.reduceAdd, Nat.reduceMul, Nat.reduceSub, Nat.reduceLeDiff, Int.reduceToNat, Int.reducePow, Int.reduceLT, Int.reduceEq, Int.reduceNeg, Nat.reducePow, List.reduceReplicate, Int.reduceLE, h, hcj, hsl, hb, hbt, hb64, eq_self]))
              | (with_reducible intro h; try simp only [h, go_sem, Nat.reduceBEq, Nat.reduceLT, Nat.reduceEqDiff, reduceIte, Nat.reduceAdd, Nat.reduceMul, Nat.reduceSub, Nat.reduceLeDiff, Int.reduceToNat, Int.reducePow, Int.reduceLT, Int.reduceEq, Int.reduceNeg, Nat.reducePow, List.reduceReplicate, Int.reduceLE, hcj, hsl, hb, hbt, hb64, eq_self])
              | ((first | (with_reducible refine acall.det (hfi _) ?_) | (with_reducible refine qcall.det (hfi _) ?_)); try simp (disch := omega) only [go_sem, Nat.reduceBEq, Nat.reduceLT, Nat.reduceEqDiff, reduceIte, Nat.reduceAdd, Nat.reduceMul, Nat.reduceSub, Nat.reduceLeDiff, Int.reduceToNat, Int.reducePow, Int.reduceLT, Int.reduceEq, Int.reduceNeg, Nat.reducePow, List.reduceReplicate, Int.reduceLE, hcj, hsl, hb, hbt, hb64, eq_self])
              | ((first | (with_reducible refine hcall.det (fun _ => hfi _) ?_)); try simp (disch := omega) only [go_sem, Nat.reduceBEq, Nat.reduceLT, Nat.reduceEqDiff, reduceIte, Nat.reduceAdd, Nat.reduceMul, Nat.reduceSub, Nat.reduceLeDiff, Int.reduceToNat, Int.reducePow, Int.reduceLT, Int.reduceEq, Int.reduceNeg, Nat.reducePow, List.reduceReplicate, Int.reduceLE, hcj, hsl, hb, hbt, hb64, eq_self]))
            refine ⟨⟨j + 1, by omega⟩, ?_, by dsimp only; omega⟩
            dsimp only
            rw [hrc1]
            refine Coe.cutN (M := [_, _, _]) ?_ (lt_st2 _ _ _ _ _ _ _ _ _ (by simp)) (lt_bx2 _ _ _ _ _ _ _ _ _ _)
            simp (disch := omega) only [Keeps, List.mem_cons, List.not_mem_nil, or_false, forall_eq_or_imp, forall_eq, Int.natCast_add, Int.natCast_one, go_sem, Nat.reduceBEq, Nat.reduceLT, Nat.reduceEqDiff, reduceIte, Nat.reduceAdd, Nat.reduceMul, Nat.reduceSub, Nat.reduceLeDiff, Int.reduceToNat, Int.reducePow, Int.reduceLT, Int.reduceEq, Int.reduceNeg, Nat.reducePow, List.reduceReplicate, Int.reduceLE]
        · have hjn : j = n := by omega
          subst hjn
          rw [rcount_all j (by omega) m]
          repeat' (first
            | (refine AWP.seq ?_)
            | (refine AWP.block ?_)
            | (refine AWP.drawH_k (id := 13) 2 [(.same, [2, 3]), (.same, [2, 3]), (.same, [2, 3]), (.same, [2, 3]), (.same, [2, 3]), (.same, [2, 3]), (.same, [2, 3]), (.same, [2, 3]), (.same, [2, 3]), (.same, [2, 3]), (.same, [2, 3]), (.same, [2, 3]), (.same, [2, 3]), (.same, [2, 3]), (.same, [2, 3]), (.new 2, [3]), (.new 3, [2]), (.wr 2, []), (.wr 3, []), (.same, [])] rfl (by decide +kernel) fun Q' hQ' => ?_)
            | (refine AWP.drawH0_k (id := 13) 2 [(.same, [2, 3]), (.same, [2, 3]), (.same, [2, 3]), (.same, [2, 3]), (.same, [2, 3]), (.same, [2, 3]), (.same, [2, 3]), (.same, [2, 3]), (.same, [2, 3]), (.same, [2, 3]), (.same, [2, 3]), (.same, [2, 3]), (.same, [2, 3]), (.same, [2, 3]), (.same, [2, 3]), (.new 2, [3]), (.new 3, [2]), (.wr 2, []), (.wr 3, []), (.same, [])] rfl (by decide +kernel) fun Q' hQ' => ?_)
            | (refine AWP.drawH_k (id := 16) 0 [(.same, []), (.same, [0]), (.wr 0, []), (.wr 1, [])] rfl (by decide +kernel) fun Q' hQ' => ?_)
            | (refine AWP.drawH0_k (id := 16) 0 [(.same, []), (.same, [0]), (.wr 0, []), (.wr 1, [])] rfl (by decide +kernel) fun Q' hQ' => ?_)
            | (with_reducible refine hops.step fun T hT => ?_; simp (disch := omega) only [hone, hskip, patch, hole, List.headD_cons, List.tail_cons, Prod.mk.injEq, eq_self, and_assoc, exists_and_left, List.append_cancel_left_eq, List.cons.injEq, go_sem, Nat.reduceBEq, Nat.reduceLT, Nat.reduceEqDiff, reduceIte, Nat.reduceAdd, Nat.reduceMul, Nat.reduceSub, Nat.reduceLeDiff, Int.reduceToNat, Int.reducePow, Int.reduceLT, Int.reduceEq, Int.reduceNeg, Nat.reducePow, List.reduceReplicate, Int.reduceLE, hcj, hsl, eq_self])
            | (with_reducible refine hops.nil ?_)
            | (with_reducible refine hT _ _ ?_; clear hT T)
            | (refine AWP.region_k fun Q' hQ' => ?_)
            | (refine AWP.drawT_k rfl (by decide +kernel) fun Q' hQ' => ?_; simp only [List.length_cons, List.length_nil, Nat.reduceAdd, Nat.reduceSub, List.take_succ_cons, List.take_zero, List.drop_succ_cons, List.drop_zero])
            | (refine AWP.draw_k rfl (by kernel_rfl) fun Q' hQ' => ?_)
            | (with_reducible refine aops.step fun T hT => ?_; simp (disch := omega) only [go_sem, Nat.reduceBEq, Nat.reduceLT, Nat.reduceEqDiff, reduceIte, Nat.reduceAdd, Nat.reduceMul, Nat.reduceSub, Nat.reduceLeDiff, Int.reduceToNat, Int.reducePow, Int.reduceLT, Int.reduceEq, Int.reduceNeg, Nat.reducePow, List.reduceReplicate, Int.reduceLE, hcj, hsl, eq_self])
            | (with_reducible refine qops.step fun T hT => ?_; simp (disch := omega) only [go_sem, Nat.reduceBEq, Nat.reduceLT, Nat.reduceEqDiff, reduceIte, Nat.reduceAdd, Nat.reduceMul, Nat.reduceSub, Nat.reduceLeDiff, Int.reduceToNat, Int.reducePow, Int.reduceLT, Int.reduceEq, Int.reduceNeg, Nat.reducePow, List.reduceReplicate, Int.reduceLE, hcj, hsl, eq_self])
            | (with_reducible refine aops.nil ?_)
            | (with_reducible refine qops.nil ?_)
            | (with_reducible refine hT _ ?_; clear hT T)
            | (refine AWP.skip ?_; try simp only [AExit.then, AExit.inBlock, reduceIte, Nat.reduceEqDiff])
            | (refine AWP.exit ?_; try simp only [AExit.then, AExit.inBlock, reduceIte, Nat.reduceEqDiff])
            | (refine AWP.ret ?_; try simp only [AExit.then, AExit.inBlock, reduceIte, Nat.reduceEqDiff])
            | (refine AWP.cond rfl (fun h => ?_) (fun h => ?_) <;> (try simp only [decide_eq_true_eq, decide_eq_false_iff_not, Bool.true_eq_false, Bool.false_eq_true] at h) <;> (try contradiction))
            | (refine hQ' _ _ ?_; clear hQ' Q'; try simp only [AExit.then, AExit.inBlock, reduceIte, Nat.reduceEqDiff])
            | (refine hQ' _ ?_; clear hQ' Q'; try simp only [AExit.then, AExit.inBlock, reduceIte, Nat.reduceEqDiff])
            | (with_reducible refine Branch.split (fun h => ?_) (fun h => ?_) <;> (try simp only [decide_eq_true_eq, decide_eq_false_iff_not, Bool.not_true, Bool.not_false, Bool.true_eq_false, Bool.false_eq_true] at h) <;> (try contradiction) <;> (simp (disch := omega) only [go_sem, Nat.reduceBEq, Nat.reduceLT, Nat.reduceEqDiff, reduceIte, Nat.reduceAdd, Nat.reduceMul, Nat.reduceSub, Nat.reduceLeDiff, Int.reduceToNat, Int.reducePow, Int.reduceLT, Int.reduceEq, Int.reduceNeg, Nat.reducePow, List.reduceReplicate, Int.reduceLE, h, hcj, hsl, eq_self]))
            | (with_reducible intro h; try simp only [h, go_sem, Nat.reduceBEq, Nat.reduceLT, Nat.reduceEqDiff, reduceIte, Nat.reduceAdd, Nat.reduceMul, Nat.reduceSub, Nat.reduceLeDiff, Int.reduceToNat, Int.reducePow, Int.reduceLT, Int.reduceEq, Int.reduceNeg, Nat.reducePow, List.reduceReplicate, Int.reduceLE, hcj, hsl, eq_self]))
          simp only [bodyQ, go_sem, Nat.reduceBEq, Nat.reduceLT, Nat.reduceEqDiff, reduceIte, Nat.reduceAdd, Nat.reduceMul, Nat.reduceSub, Nat.reduceLeDiff, Int.reduceToNat, Int.reducePow, Int.reduceLT, Int.reduceEq, Int.reduceNeg, Nat.reducePow, List.reduceReplicate, Int.reduceLE]
          have hmin : ((min j m : Nat) : Int) = if (notes.length : Int) + 1 < (j : Int) then (notes.length : Int) + 1 else (j : Int) := by split <;> omega
          rw [decide_eq_true hmin]
          exact Fin.cut (.v _) ⟨rfl, rfl⟩

end Go.Proofs.Ytadajfahlgekiaa.VL

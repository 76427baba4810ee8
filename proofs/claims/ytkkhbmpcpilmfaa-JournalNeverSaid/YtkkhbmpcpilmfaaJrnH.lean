/- Layer 13: the fixed fact. -/
import Derived.Test.YtkkhbmpcpilmfaaJrnG
-- STEPWISE
-- TAIL
set_option linter.unusedVariables false
set_option linter.unusedSimpArgs false
set_option maxRecDepth 10000
namespace Go.Proofs.Ytkkhbmpcpilmfaa.VL
open Go Go.RowKit Go.Lib

theorem jfind_zeros : jfind (zerosB 64) = (R0, 10) := by
  apply jfind_bad
  intro h
  obtain ⟨h1, h2⟩ := jfind_ok h
  have := recB_last h1
  rw [h2] at this
  simp [zerosB] at this
theorem dput_ok {D : Dk} (hf : D.f = -1) (hd : D.d = false) (hl : D.s.length ≤ 64) {a : Nat} (ha : a < D.s.length) (b : List UInt8) : dput D (a : Int) b = (⟨D.s.set a b, -1, false⟩, 0) := by
  have hr : dright D = true := by simp [dright, hf, hl]
  have h0 : dasked D (a : Int) = 0 := by
    unfold dasked
    rw [if_neg (by rw [hr]; decide), if_neg (by rw [hd]; decide), if_pos (by omega)]
  unfold dput
  rw [if_neg (by rw [h0]; simp), if_pos hf, Int.toNat_natCast, hd]
def al1 : Rc := ⟨1, 1, [97]⟩
def al2 : Rc := ⟨2, 2, [98]⟩
def sec0 : List (List UInt8) := [zerosB 64, zerosB 64, zerosB 64]
def sec1 : List (List UInt8) := [zerosB 64, recB al1, zerosB 64]
def sec2 : List (List UInt8) := [zerosB 64, recB al1, recB al2]
theorem al1_may : jmay al1 = true := by decide
theorem al2_may : jmay al2 = true := by decide
theorem al_fmt : ∀ i, i ≤ 3 → jfmt ⟨sec0, -1, false⟩ i = (⟨sec0, -1, false⟩, 0) := by
  intro i
  induction i with
  | zero => intro _; rfl
  | succ i ih =>
    intro hi
    rw [jfmt, ih (by omega), if_neg (by simp)]
    rw [dput_ok rfl rfl (by decide) (show i < sec0.length by simp [sec0]; omega)]
    have : sec0.set i (zerosB 64) = sec0 := by
      have : i = 0 ∨ i = 1 ∨ i = 2 := by omega
      rcases this with rfl | rfl | rfl <;> rfl
    dsimp only
    rw [this]
theorem al_format : jformat ⟨sec0, -1, false⟩ [97] = (⟨sec1, -1, false⟩, al1, 0) := by
  unfold jformat
  rw [if_neg (by decide)]
  have h := al_fmt 3 (Nat.le_refl _)
  have hl : (⟨sec0, -1, false⟩ : Dk).s.length = 3 := rfl
  rw [hl, h, if_neg (by simp)]
  have hj : jmay ⟨1, 1, [97]⟩ = true := by decide
  unfold jput
  rw [if_neg (by rw [hj]; decide)]
  have hq : ((⟨1, 1, [97]⟩ : Rc).q % ((⟨sec0, -1, false⟩ : Dk).s.length : Int)) = ((1 : Nat) : Int) := rfl
  rw [hq, dput_ok rfl rfl (by decide) (by decide), if_neg (by simp)]
  rfl
theorem al_scan1 : jscan sec1 3 = al1 := by
  have h0 : jscan sec1 1 = R0 := by
    rw [jscan]
    show (if (jfind (zerosB 64)).2 = 0 ∧ _ ∧ _ then _ else _) = _
    rw [jfind_zeros, if_neg (by simp)]
    rfl
  have h1 : jscan sec1 2 = al1 := by
    rw [jscan, h0]
    show (if (jfind (recB al1)).2 = 0 ∧ _ ∧ _ then (jfind (recB al1)).1 else _) = _
    rw [jfind_recB al1_may, if_pos (by decide)]
  rw [jscan, h1]
  show (if (jfind (zerosB 64)).2 = 0 ∧ _ ∧ _ then _ else _) = _
  rw [jfind_zeros, if_neg (by simp)]
theorem al_scan2 : jscan sec2 3 = al2 := by
  have h0 : jscan sec2 1 = R0 := by
    rw [jscan]
    show (if (jfind (zerosB 64)).2 = 0 ∧ _ ∧ _ then _ else _) = _
    rw [jfind_zeros, if_neg (by simp)]
    rfl
  have h1 : jscan sec2 2 = al1 := by
    rw [jscan, h0]
    show (if (jfind (recB al1)).2 = 0 ∧ _ ∧ _ then (jfind (recB al1)).1 else _) = _
    rw [jfind_recB al1_may, if_pos (by decide)]
  rw [jscan, h1]
  show (if (jfind (recB al2)).2 = 0 ∧ _ ∧ _ then (jfind (recB al2)).1 else _) = _
  rw [jfind_recB al2_may, if_pos (by decide)]
theorem al_last1 : jlast ⟨sec1, -1, false⟩ = (al1, 0) := by
  unfold jlast
  have h : jscan (⟨sec1, -1, false⟩ : Dk).s (⟨sec1, -1, false⟩ : Dk).s.length = al1 := al_scan1
  rw [h, if_neg (by decide), if_neg (by decide), if_neg (by decide)]
theorem al_last2 : jlast ⟨sec2, -1, false⟩ = (al2, 0) := by
  unfold jlast
  have h : jscan (⟨sec2, -1, false⟩ : Dk).s (⟨sec2, -1, false⟩ : Dk).s.length = al2 := al_scan2
  rw [h, if_neg (by decide), if_neg (by decide), if_neg (by decide)]
theorem al_next : jnext ⟨sec1, -1, false⟩ [98] = (⟨sec2, -1, false⟩, al2, 0) := by
  unfold jnext jwrite
  rw [al_last1, if_neg (by simp), if_neg (by decide)]
  rw [if_neg (by simp), if_neg (by decide), if_neg (by decide)]
  have hj : jmay ⟨al1.q + 1, al1.g + 1, [98]⟩ = true := by decide
  unfold jput
  rw [if_neg (by rw [hj]; decide)]
  have hq : ((⟨al1.q + 1, al1.g + 1, [98]⟩ : Rc).q % ((⟨sec1, -1, false⟩ : Dk).s.length : Int)) = ((2 : Nat) : Int) := rfl
  rw [hq, dput_ok rfl rfl (by decide) (by decide), if_neg (by simp)]
  rfl
theorem all64_secs : all64 sec0 ∧ all64 sec1 ∧ all64 sec2 := by
  have hz := zerosB_length 64
  have h1 := recB_length al1_may
  have h2 := recB_length al2_may
  refine ⟨?_, ?_, ?_⟩ <;> intro x hx
  · simp only [sec0, List.mem_cons, List.not_mem_nil, or_false] at hx
    rcases hx with rfl | rfl | rfl <;> assumption
  · simp only [sec1, List.mem_cons, List.not_mem_nil, or_false] at hx
    rcases hx with rfl | rfl | rfl <;> assumption
  · simp only [sec2, List.mem_cons, List.not_mem_nil, or_false] at hx
    rcases hx with rfl | rfl | rfl <;> assumption

set_option maxHeartbeats 2000000 in
theorem aliveJ_spec (H : List Box) : ASpec Try.prog 22 [] H (Gives (vb true) H) := by
  obtain ⟨a0, a1, a2⟩ := all64_secs
  have h1 : ∀ H, ASpec Try.prog 23 [vi 3] H (Gives (.tup [.agg [.lst 64 (secG sec0), vi (-1), vb false], vi 0]) H) := fun H => new_spec 3 (by decide) (by decide) H
  have h2 : ∀ H, ASpec Try.prog 24 [.agg [.lst 64 (secG sec0), vi (-1), vb false], vs [97]] H (Gives (.tup [.agg [.lst 64 (secG sec1), vi (-1), vb false], .agg [vi 1, vi 1, vs [97]], vi 0]) H) := fun H => by
    have := format_spec ⟨sec0, -1, false⟩ [97] (by decide) (by decide) a0 (by decide) H
    rw [al_format] at this
    exact this
  have h3 : ∀ H, ASpec Try.prog 27 [.agg [.lst 64 (secG sec1), vi (-1), vb false], vs [98]] H (Gives (.tup [.agg [.lst 64 (secG sec2), vi (-1), vb false], .agg [vi 2, vi 2, vs [98]], vi 0]) H) := fun H => by
    have := next_spec ⟨sec1, -1, false⟩ [98] (by show (3 : Nat) ≤ _; decide) (by decide) a1 (by decide) H
    rw [al_next] at this
    exact this
  have h4 : ∀ H, ASpec Try.prog 29 [.agg [.lst 64 (secG sec2), vi (-1), vb false]] H (Gives (.tup [.agg [vi 2, vi 2, vs [98]], vi 0]) H) := fun H => by
    have := last_spec ⟨sec2, -1, false⟩ (by show (3 : Nat) ≤ _; decide) a2 H
    rw [al_last2] at this
    exact this
  generalize sec0 = s0 at h1 h2
  generalize sec1 = s1 at h2 h3
  generalize sec2 = s2 at h3 h4
  intro base
  refine acall_body Try.func22 rfl (fun a w => Try.call22 a w) Try.ntmps22 Try.results22 (by simp) ?_
  intro w β hI
  simp only [number]
  repeat' (first
    | (refine AWP.seq ?_)
    | (refine AWP.block ?_)
    | (refine AWP.region_k fun Q' hQ' => ?_)
    | (refine AWP.drawT_k rfl (by decide +kernel) fun Q' hQ' => ?_; simp only [List.length_cons, List.length_nil, Nat.reduceAdd, Nat.reduceSub, List.take_succ_cons, List.take_zero, List.drop_succ_cons, List.drop_zero])
    | (refine AWP.draw_k rfl (by kernel_rfl) fun Q' hQ' => ?_)
    | (with_reducible refine aops.step fun T hT => ?_; simp (disch := omega) only [go_sem, Nat.reduceBEq, Nat.reduceLT, Nat.reduceEqDiff, reduceIte, Nat.reduceAdd, Nat.reduceMul, Nat.reduceSub, Nat.reduceLeDiff, Int.reduceToNat, Int.reducePow, Int.reduceLT, Int.reduceEq, Int.reduceNeg, Nat.reducePow, List.reduceReplicate, Int.reduceLE, eq_self])
    | (with_reducible refine qops.step fun T hT => ?_; simp (disch := omega) only [go_sem, Nat.reduceBEq, Nat.reduceLT, Nat.reduceEqDiff, reduceIte, Nat.reduceAdd, Nat.reduceMul, Nat.reduceSub, Nat.reduceLeDiff, Int.reduceToNat, Int.reducePow, Int.reduceLT, Int.reduceEq, Int.reduceNeg, Nat.reducePow, List.reduceReplicate, Int.reduceLE, eq_self])
    | (with_reducible refine aops.nil ?_)
    | (with_reducible refine qops.nil ?_)
    | (with_reducible refine hT _ ?_; clear hT T)
    | (refine AWP.skip ?_; try simp only [AExit.then, AExit.inBlock, reduceIte, Nat.reduceEqDiff])
    | (refine AWP.exit ?_; try simp only [AExit.then, AExit.inBlock, reduceIte, Nat.reduceEqDiff])
    | (refine AWP.ret ?_; try simp only [AExit.then, AExit.inBlock, reduceIte, Nat.reduceEqDiff])
    | (refine AWP.cond rfl (fun h => ?_) (fun h => ?_) <;> (try simp only [decide_eq_true_eq, decide_eq_false_iff_not, Bool.true_eq_false, Bool.false_eq_true] at h) <;> (try contradiction))
    | (refine hQ' _ _ ?_; clear hQ' Q'; try simp only [AExit.then, AExit.inBlock, reduceIte, Nat.reduceEqDiff])
    | (refine hQ' _ ?_; clear hQ' Q'; try simp only [AExit.then, AExit.inBlock, reduceIte, Nat.reduceEqDiff])
    | (with_reducible refine Branch.split (fun h => ?_) (fun h => ?_) <;> (try simp only [decide_eq_true_eq, decide_eq_false_iff_not, Bool.not_true, Bool.not_false, Bool.true_eq_false, Bool.false_eq_true] at h) <;> (try contradiction) <;> (simp (disch := omega) only [go_sem, Nat.reduceBEq, Nat.reduceLT, Nat.reduceEqDiff, reduceIte, Nat.reduceAdd, Nat.reduceMul, Nat.reduceSub, Nat.reduceLeDiff, Int.reduceToNat, Int.reducePow, Int.reduceLT, Int.reduceEq, Int.reduceNeg, Nat.reducePow, List.reduceReplicate, Int.reduceLE, h, eq_self]))
    | (with_reducible intro h; try simp only [h, go_sem, Nat.reduceBEq, Nat.reduceLT, Nat.reduceEqDiff, reduceIte, Nat.reduceAdd, Nat.reduceMul, Nat.reduceSub, Nat.reduceLeDiff, Int.reduceToNat, Int.reducePow, Int.reduceLT, Int.reduceEq, Int.reduceNeg, Nat.reducePow, List.reduceReplicate, Int.reduceLE, eq_self])
    | ((first | (with_reducible refine acall.det (h1 _) ?_) | (with_reducible refine qcall.det (h1 _) ?_) | (with_reducible refine acall.det (h2 _) ?_) | (with_reducible refine qcall.det (h2 _) ?_) | (with_reducible refine acall.det (h3 _) ?_) | (with_reducible refine qcall.det (h3 _) ?_) | (with_reducible refine acall.det (h4 _) ?_) | (with_reducible refine qcall.det (h4 _) ?_)); try simp (disch := omega) only [go_sem, Nat.reduceBEq, Nat.reduceLT, Nat.reduceEqDiff, reduceIte, Nat.reduceAdd, Nat.reduceMul, Nat.reduceSub, Nat.reduceLeDiff, Int.reduceToNat, Int.reducePow, Int.reduceLT, Int.reduceEq, Int.reduceNeg, Nat.reducePow, List.reduceReplicate, Int.reduceLE, eq_self]))
  simp only [bodyQ, go_sem, Nat.reduceBEq, Nat.reduceLT, Nat.reduceEqDiff, reduceIte, Nat.reduceAdd, Nat.reduceMul, Nat.reduceSub, Nat.reduceLeDiff, Int.reduceToNat, Int.reducePow, Int.reduceLT, Int.reduceEq, Int.reduceNeg, Nat.reducePow, List.reduceReplicate, Int.reduceLE]
  exact Fin.cut (.v _) ⟨rfl, rfl⟩

end Go.Proofs.Ytkkhbmpcpilmfaa.VL

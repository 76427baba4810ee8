/- Layer 1: what the functions that lay and take numbers and texts compute. -/
import Derived.Test.YtkkhbmpcpilmfaaQuillN
-- STEPWISE
set_option linter.unusedVariables false
set_option linter.unusedSimpArgs false
set_option maxRecDepth 10000
namespace Go.Proofs.Ytkkhbmpcpilmfaa.VL
open Go Go.RowKit Go.Lib

theorem and_byte (c : Nat) (h : c < 256) : iand .u8 c 128 = if 128 ≤ c then 128 else 0 := by
  rw [iand_u8 (by omega) (by omega) (by omega) (by omega)]
  have key : ∀ k : _root_.Fin 256, k.val &&& 128 = if 128 ≤ k.val then 128 else 0 := by decide
  have : c &&& 128 = if 128 ≤ c then 128 else 0 := key ⟨c, h⟩
  show ((c &&& 128 : Nat) : Int) = _
  rw [this]
  split <;> rfl

set_option maxHeartbeats 2000000 in
theorem take_spec (bs : List UInt8) (hl : bs.length ≤ 1099511627776) (H : List Box) : ASpec Try.prog 71 [vB bs] H (Gives (tkV (tk bs)) H) := by
  obtain ⟨m, hm⟩ : ∃ m, m = min bs.length 9 := ⟨_, rfl⟩
  have hmin : (if (9 : Int) < (bs.length : Int) then (9 : Int) else (bs.length : Int)) = (m : Int) := by split <;> omega
  have hml : (bs.take m).length = m := by simp; omega
  intro base
  refine acall_body Try.func71 rfl (fun a w => Try.call71 a w) Try.ntmps71 Try.results71 (by simp) ?_
  intro w β hI
  simp only [number]
  repeat' (first
    | (refine AWP.seq ?_)
    | (refine AWP.block ?_)
    | (refine AWP.region_k fun Q' hQ' => ?_)
    | (refine AWP.draw_k rfl (by kernel_rfl) fun Q' hQ' => ?_)
    | (with_reducible refine aops.step fun T hT => ?_; simp (disch := omega) only [go_sem, Nat.reduceBEq, Nat.reduceLT, Nat.reduceEqDiff, reduceIte, Nat.reduceAdd, Nat.reduceMul, Nat.reduceSub, Nat.reduceLeDiff, Int.reduceToNat, Int.reducePow, Int.reduceLT, Int.reduceEq, Int.reduceNeg, Nat.reducePow, List.reduceReplicate, Int.reduceLE, hmin, hml])
    | (with_reducible refine qops.step fun T hT => ?_; simp (disch := omega) only [go_sem, Nat.reduceBEq, Nat.reduceLT, Nat.reduceEqDiff, reduceIte, Nat.reduceAdd, Nat.reduceMul, Nat.reduceSub, Nat.reduceLeDiff, Int.reduceToNat, Int.reducePow, Int.reduceLT, Int.reduceEq, Int.reduceNeg, Nat.reducePow, List.reduceReplicate, Int.reduceLE, hmin, hml])
    | (with_reducible refine aops.nil ?_)
    | (with_reducible refine qops.nil ?_)
    | (with_reducible refine hT _ ?_; clear hT T)
    | (refine AWP.skip ?_; try simp only [AExit.then, AExit.inBlock, reduceIte, Nat.reduceEqDiff])
    | (refine AWP.exit ?_; try simp only [AExit.then, AExit.inBlock, reduceIte, Nat.reduceEqDiff])
    | (refine AWP.ret ?_; try simp only [AExit.then, AExit.inBlock, reduceIte, Nat.reduceEqDiff])
    | (refine AWP.cond rfl (fun h => ?_) (fun h => ?_) <;> (try simp only [decide_eq_true_eq, decide_eq_false_iff_not, Bool.true_eq_false, Bool.false_eq_true] at h) <;> (try contradiction))
    | (refine hQ' _ _ ?_; clear hQ' Q'; try simp only [AExit.then, AExit.inBlock, reduceIte, Nat.reduceEqDiff])
    | (refine hQ' _ ?_; clear hQ' Q'; try simp only [AExit.then, AExit.inBlock, reduceIte, Nat.reduceEqDiff])
    | (with_reducible refine Branch.split (fun h => ?_) (fun h => ?_) <;> (try simp only [decide_eq_true_eq, decide_eq_false_iff_not, Bool.not_true, Bool.not_false, Bool.true_eq_false, Bool.false_eq_true] at h) <;> (try contradiction) <;> (simp (disch := omega) only [go_sem, Nat.reduceBEq, Nat.reduceLT, Nat.reduceEqDiff, reduceIte, Nat.reduceAdd, Nat.reduceMul, Nat.reduceSub, Nat.reduceLeDiff, Int.reduceToNat, Int.reducePow, Int.reduceLT, Int.reduceEq, Int.reduceNeg, Nat.reducePow, List.reduceReplicate, Int.reduceLE, h, hmin, hml]))
    | (with_reducible intro h; try simp only [h, go_sem, Nat.reduceBEq, Nat.reduceLT, Nat.reduceEqDiff, reduceIte, Nat.reduceAdd, Nat.reduceMul, Nat.reduceSub, Nat.reduceLeDiff, Int.reduceToNat, Int.reducePow, Int.reduceLT, Int.reduceEq, Int.reduceNeg, Nat.reducePow, List.reduceReplicate, Int.reduceLE, hmin, hml]))
  refine AWP.loop (ι := {p : Nat × Nat // p.1 ≤ m ∧ p.2 < 128 ^ p.1 ∧ tk bs = tkGo (9 - p.1) p.1 p.2 (bs.drop p.1)})
    (fun p => ⟨[(0, vB bs), (5, .v (.int .u64 p.1.2)), (12, vB (bs.take m)), (13, vi m), (14, vi p.1.1)], H⟩) (fun p => 9 - p.1.1) ⟨(0, 0), Nat.zero_le _, by decide, rfl⟩ ?_ ?_
  · dsimp only
    refine Coe.keep ?_; simp (disch := omega) only [Keeps, List.mem_cons, List.not_mem_nil, or_false, forall_eq_or_imp, forall_eq, List.length_append, Int.natCast_add, Int.natCast_one, Int.add_sub_cancel, Int.reduceSub, Int.reduceAdd, go_sem, Nat.reduceBEq, Nat.reduceLT, Nat.reduceEqDiff, reduceIte, Nat.reduceAdd, Nat.reduceMul, Nat.reduceSub, Nat.reduceLeDiff, Int.reduceToNat, Int.reducePow, Int.reduceLT, Int.reduceEq, Int.reduceNeg, Nat.reducePow, List.reduceReplicate, Int.reduceLE]
  · rintro ⟨⟨i, u⟩, hi, hu, hp⟩
    dsimp only at hi hu hp ⊢
    by_cases him : (i : Int) < (m : Int)
    · have hb : i < bs.length := by omega
      have hg : (bs.take m)[i]? = some bs[i] := by rw [List.getElem?_take_of_lt (by omega)]; exact List.getElem?_eq_getElem hb
      have hdr : bs.drop i = bs[i] :: bs.drop (i + 1) := List.drop_eq_getElem_cons hb
      generalize bs[i] = c at hg hdr
      have h256 : c.toNat < 256 := c.toNat_lt
      have hdl := digit_lt (c := c.toNat) hu (by omega)
      have hor' := or_digit (c := c.toNat % 128) hu
      have hdg := nb_digits (c := c.toNat % 128) hu (by omega)
      have hpow := pow128_le (i + 1) (by omega)
      have hpw : ((2 : Int) ^ (7 * (i : Int)).toNat) = ((128 ^ i : Nat) : Int) := by
        rw [show (7 * (i : Int)).toNat = 7 * i by omega, pow128, Int.natCast_pow]; rfl
      rw [hdr, show 9 - i = (8 - i) + 1 by omega, tkGo] at hp
      obtain ⟨d, hd⟩ : ∃ d, d = c.toNat % 128 * 128 ^ i := ⟨_, rfl⟩
      rw [← hd] at hdl hp hdg hor'
      have hmul : IntKind.u64.wrap ((c.toNat : Int) % 128 * 2 ^ (7 * (i : Int)).toNat) = (d : Int) := by
        have e : (c.toNat : Int) % 128 * 2 ^ (7 * (i : Int)).toNat = (d : Int) := by rw [hpw, hd, Int.natCast_mul]; rfl
        rw [e, wu64 (by omega) (by omega)]
      have hor : ior .u64 u d = ((u : Int) + (d : Int)) := by
        rw [ior_u64 (by omega) (by omega) (by omega) (by omega), Int.toNat_natCast, Int.toNat_natCast, hor']
        rfl
      have han : iandNot .u8 (c.toNat : Int) 128 = (c.toNat : Int) % 128 := by
        have := andNot_byte (c.toNat : Int) (by omega)
        rwa [wu8 (by omega) (by omega)] at this
      have hand := and_byte c.toNat h256
      by_cases hc : 128 ≤ c.toNat
      · rw [if_pos hc] at hand hp
        repeat' (first
          | (refine AWP.seq ?_)
          | (refine AWP.block ?_)
          | (refine AWP.region_k fun Q' hQ' => ?_)
          | (refine AWP.draw_k rfl (by kernel_rfl) fun Q' hQ' => ?_)
          | (with_reducible refine aops.step fun T hT => ?_; simp (disch := omega) only [go_sem, Nat.reduceBEq, Nat.reduceLT, Nat.reduceEqDiff, reduceIte, Nat.reduceAdd, Nat.reduceMul, Nat.reduceSub, Nat.reduceLeDiff, Int.reduceToNat, Int.reducePow, Int.reduceLT, Int.reduceEq, Int.reduceNeg, Nat.reducePow, List.reduceReplicate, Int.reduceLE, hmin, hml, him, hg, han, hmul, hor, hand])
          | (with_reducible refine qops.step fun T hT => ?_; simp (disch := omega) only [go_sem, Nat.reduceBEq, Nat.reduceLT, Nat.reduceEqDiff, reduceIte, Nat.reduceAdd, Nat.reduceMul, Nat.reduceSub, Nat.reduceLeDiff, Int.reduceToNat, Int.reducePow, Int.reduceLT, Int.reduceEq, Int.reduceNeg, Nat.reducePow, List.reduceReplicate, Int.reduceLE, hmin, hml, him, hg, han, hmul, hor, hand])
          | (with_reducible refine aops.nil ?_)
          | (with_reducible refine qops.nil ?_)
          | (with_reducible refine hT _ ?_; clear hT T)
          | (refine AWP.skip ?_; try simp only [AExit.then, AExit.inBlock, reduceIte, Nat.reduceEqDiff])
          | (refine AWP.exit ?_; try simp only [AExit.then, AExit.inBlock, reduceIte, Nat.reduceEqDiff])
          | (refine AWP.ret ?_; try simp only [AExit.then, AExit.inBlock, reduceIte, Nat.reduceEqDiff])
          | (refine AWP.cond rfl (fun h => ?_) (fun h => ?_) <;> (try simp only [decide_eq_true_eq, decide_eq_false_iff_not, Bool.true_eq_false, Bool.false_eq_true] at h) <;> (try contradiction))
          | (refine hQ' _ _ ?_; clear hQ' Q'; try simp only [AExit.then, AExit.inBlock, reduceIte, Nat.reduceEqDiff])
          | (refine hQ' _ ?_; clear hQ' Q'; try simp only [AExit.then, AExit.inBlock, reduceIte, Nat.reduceEqDiff])
          | (with_reducible refine Branch.split (fun h => ?_) (fun h => ?_) <;> (try simp only [decide_eq_true_eq, decide_eq_false_iff_not, Bool.not_true, Bool.not_false, Bool.true_eq_false, Bool.false_eq_true] at h) <;> (try contradiction) <;> (simp (disch := omega) only [go_sem, Nat.reduceBEq, Nat.reduceLT, Nat.reduceEqDiff, reduceIte, Nat.reduceAdd, Nat.reduceMul, Nat.reduceSub, Nat.reduceLeDiff, Int.reduceToNat, Int.reducePow, Int.reduceLT, Int.reduceEq, Int.reduceNeg, Nat.reducePow, List.reduceReplicate, Int.reduceLE, h, hmin, hml, him, hg, han, hmul, hor, hand]))
          | (with_reducible intro h; try simp only [h, go_sem, Nat.reduceBEq, Nat.reduceLT, Nat.reduceEqDiff, reduceIte, Nat.reduceAdd, Nat.reduceMul, Nat.reduceSub, Nat.reduceLeDiff, Int.reduceToNat, Int.reducePow, Int.reduceLT, Int.reduceEq, Int.reduceNeg, Nat.reducePow, List.reduceReplicate, Int.reduceLE, hmin, hml, him, hg, han, hmul, hor, hand]))
        refine ⟨⟨(i + 1, u + d), ?_, ?_, ?_⟩, ?_, ?_⟩ <;> dsimp only
        · omega
        · exact hdl
        · rw [show 9 - (i + 1) = 8 - i by omega]; exact hp
        · refine Coe.keep ?_; simp (disch := omega) only [Keeps, List.mem_cons, List.not_mem_nil, or_false, forall_eq_or_imp, forall_eq, List.length_append, Int.natCast_add, Int.natCast_one, Int.add_sub_cancel, Int.reduceSub, Int.reduceAdd, go_sem, Nat.reduceBEq, Nat.reduceLT, Nat.reduceEqDiff, reduceIte, Nat.reduceAdd, Nat.reduceMul, Nat.reduceSub, Nat.reduceLeDiff, Int.reduceToNat, Int.reducePow, Int.reduceLT, Int.reduceEq, Int.reduceNeg, Nat.reducePow, List.reduceReplicate, Int.reduceLE]
        · omega
      · rw [if_neg hc] at hand hp
        by_cases hbig : (4611686018427387904 : Int) < (u : Int) + (d : Int)
        · repeat' (first
            | (refine AWP.seq ?_)
            | (refine AWP.block ?_)
            | (refine AWP.region_k fun Q' hQ' => ?_)
            | (refine AWP.draw_k rfl (by kernel_rfl) fun Q' hQ' => ?_)
            | (with_reducible refine aops.step fun T hT => ?_; simp (disch := omega) only [go_sem, Nat.reduceBEq, Nat.reduceLT, Nat.reduceEqDiff, reduceIte, Nat.reduceAdd, Nat.reduceMul, Nat.reduceSub, Nat.reduceLeDiff, Int.reduceToNat, Int.reducePow, Int.reduceLT, Int.reduceEq, Int.reduceNeg, Nat.reducePow, List.reduceReplicate, Int.reduceLE, hmin, hml, him, hg, han, hmul, hor, hand, hbig])
            | (with_reducible refine qops.step fun T hT => ?_; simp (disch := omega) only [go_sem, Nat.reduceBEq, Nat.reduceLT, Nat.reduceEqDiff, reduceIte, Nat.reduceAdd, Nat.reduceMul, Nat.reduceSub, Nat.reduceLeDiff, Int.reduceToNat, Int.reducePow, Int.reduceLT, Int.reduceEq, Int.reduceNeg, Nat.reducePow, List.reduceReplicate, Int.reduceLE, hmin, hml, him, hg, han, hmul, hor, hand, hbig])
            | (with_reducible refine aops.nil ?_)
            | (with_reducible refine qops.nil ?_)
            | (with_reducible refine hT _ ?_; clear hT T)
            | (refine AWP.skip ?_; try simp only [AExit.then, AExit.inBlock, reduceIte, Nat.reduceEqDiff])
            | (refine AWP.exit ?_; try simp only [AExit.then, AExit.inBlock, reduceIte, Nat.reduceEqDiff])
            | (refine AWP.ret ?_; try simp only [AExit.then, AExit.inBlock, reduceIte, Nat.reduceEqDiff])
            | (refine AWP.cond rfl (fun h => ?_) (fun h => ?_) <;> (try simp only [decide_eq_true_eq, decide_eq_false_iff_not, Bool.true_eq_false, Bool.false_eq_true] at h) <;> (try contradiction))
            | (refine hQ' _ _ ?_; clear hQ' Q'; try simp only [AExit.then, AExit.inBlock, reduceIte, Nat.reduceEqDiff])
            | (refine hQ' _ ?_; clear hQ' Q'; try simp only [AExit.then, AExit.inBlock, reduceIte, Nat.reduceEqDiff])
            | (with_reducible refine Branch.split (fun h => ?_) (fun h => ?_) <;> (try simp only [decide_eq_true_eq, decide_eq_false_iff_not, Bool.not_true, Bool.not_false, Bool.true_eq_false, Bool.false_eq_true] at h) <;> (try contradiction) <;> (simp (disch := omega) only [go_sem, Nat.reduceBEq, Nat.reduceLT, Nat.reduceEqDiff, reduceIte, Nat.reduceAdd, Nat.reduceMul, Nat.reduceSub, Nat.reduceLeDiff, Int.reduceToNat, Int.reducePow, Int.reduceLT, Int.reduceEq, Int.reduceNeg, Nat.reducePow, List.reduceReplicate, Int.reduceLE, h, hmin, hml, him, hg, han, hmul, hor, hand, hbig]))
            | (with_reducible intro h; try simp only [h, go_sem, Nat.reduceBEq, Nat.reduceLT, Nat.reduceEqDiff, reduceIte, Nat.reduceAdd, Nat.reduceMul, Nat.reduceSub, Nat.reduceLeDiff, Int.reduceToNat, Int.reducePow, Int.reduceLT, Int.reduceEq, Int.reduceNeg, Nat.reducePow, List.reduceReplicate, Int.reduceLE, hmin, hml, him, hg, han, hmul, hor, hand, hbig]))
          simp only [bodyQ, go_sem, Nat.reduceBEq, Nat.reduceLT, Nat.reduceEqDiff, reduceIte, Nat.reduceAdd, Nat.reduceMul, Nat.reduceSub, Nat.reduceLeDiff, Int.reduceToNat, Int.reducePow, Int.reduceLT, Int.reduceEq, Int.reduceNeg, Nat.reducePow, List.reduceReplicate, Int.reduceLE]
          rw [if_pos (.inl (by omega))] at hp
          exact Fin.same ⟨by rw [hp]; rfl, rfl⟩
        · by_cases hc0 : (c.toNat : Int) = 0
          · by_cases hi0 : (0 : Int) < (i : Int)
            · have hc0 := eq_true hc0
              repeat' (first
                | (refine AWP.seq ?_)
                | (refine AWP.block ?_)
                | (refine AWP.region_k fun Q' hQ' => ?_)
                | (refine AWP.draw_k rfl (by kernel_rfl) fun Q' hQ' => ?_)
                | (with_reducible refine aops.step fun T hT => ?_; simp (disch := omega) only [go_sem, Nat.reduceBEq, Nat.reduceLT, Nat.reduceEqDiff, reduceIte, Nat.reduceAdd, Nat.reduceMul, Nat.reduceSub, Nat.reduceLeDiff, Int.reduceToNat, Int.reducePow, Int.reduceLT, Int.reduceEq, Int.reduceNeg, Nat.reducePow, List.reduceReplicate, Int.reduceLE, hmin, hml, him, hg, han, hmul, hor, hand, hbig, hc0, hi0])
                | (with_reducible refine qops.step fun T hT => ?_; simp (disch := omega) only [go_sem, Nat.reduceBEq, Nat.reduceLT, Nat.reduceEqDiff, reduceIte, Nat.reduceAdd, Nat.reduceMul, Nat.reduceSub, Nat.reduceLeDiff, Int.reduceToNat, Int.reducePow, Int.reduceLT, Int.reduceEq, Int.reduceNeg, Nat.reducePow, List.reduceReplicate, Int.reduceLE, hmin, hml, him, hg, han, hmul, hor, hand, hbig, hc0, hi0])
                | (with_reducible refine aops.nil ?_)
                | (with_reducible refine qops.nil ?_)
                | (with_reducible refine hT _ ?_; clear hT T)
                | (refine AWP.skip ?_; try simp only [AExit.then, AExit.inBlock, reduceIte, Nat.reduceEqDiff])
                | (refine AWP.exit ?_; try simp only [AExit.then, AExit.inBlock, reduceIte, Nat.reduceEqDiff])
                | (refine AWP.ret ?_; try simp only [AExit.then, AExit.inBlock, reduceIte, Nat.reduceEqDiff])
                | (refine AWP.cond rfl (fun h => ?_) (fun h => ?_) <;> (try simp only [decide_eq_true_eq, decide_eq_false_iff_not, Bool.true_eq_false, Bool.false_eq_true] at h) <;> (try contradiction))
                | (refine hQ' _ _ ?_; clear hQ' Q'; try simp only [AExit.then, AExit.inBlock, reduceIte, Nat.reduceEqDiff])
                | (refine hQ' _ ?_; clear hQ' Q'; try simp only [AExit.then, AExit.inBlock, reduceIte, Nat.reduceEqDiff])
                | (with_reducible refine Branch.split (fun h => ?_) (fun h => ?_) <;> (try simp only [decide_eq_true_eq, decide_eq_false_iff_not, Bool.not_true, Bool.not_false, Bool.true_eq_false, Bool.false_eq_true] at h) <;> (try contradiction) <;> (simp (disch := omega) only [go_sem, Nat.reduceBEq, Nat.reduceLT, Nat.reduceEqDiff, reduceIte, Nat.reduceAdd, Nat.reduceMul, Nat.reduceSub, Nat.reduceLeDiff, Int.reduceToNat, Int.reducePow, Int.reduceLT, Int.reduceEq, Int.reduceNeg, Nat.reducePow, List.reduceReplicate, Int.reduceLE, h, hmin, hml, him, hg, han, hmul, hor, hand, hbig, hc0, hi0]))
                | (with_reducible intro h; try simp only [h, go_sem, Nat.reduceBEq, Nat.reduceLT, Nat.reduceEqDiff, reduceIte, Nat.reduceAdd, Nat.reduceMul, Nat.reduceSub, Nat.reduceLeDiff, Int.reduceToNat, Int.reducePow, Int.reduceLT, Int.reduceEq, Int.reduceNeg, Nat.reducePow, List.reduceReplicate, Int.reduceLE, hmin, hml, him, hg, han, hmul, hor, hand, hbig, hc0, hi0]))
              simp only [bodyQ, go_sem, Nat.reduceBEq, Nat.reduceLT, Nat.reduceEqDiff, reduceIte, Nat.reduceAdd, Nat.reduceMul, Nat.reduceSub, Nat.reduceLeDiff, Int.reduceToNat, Int.reducePow, Int.reduceLT, Int.reduceEq, Int.reduceNeg, Nat.reducePow, List.reduceReplicate, Int.reduceLE]
              rw [if_pos (.inr (by omega))] at hp
              exact Fin.same ⟨by rw [hp]; rfl, rfl⟩
            · have hc0 := eq_true hc0
              repeat' (first
                | (refine AWP.seq ?_)
                | (refine AWP.block ?_)
                | (refine AWP.region_k fun Q' hQ' => ?_)
                | (refine AWP.draw_k rfl (by kernel_rfl) fun Q' hQ' => ?_)
                | (with_reducible refine aops.step fun T hT => ?_; simp (disch := omega) only [go_sem, Nat.reduceBEq, Nat.reduceLT, Nat.reduceEqDiff, reduceIte, Nat.reduceAdd, Nat.reduceMul, Nat.reduceSub, Nat.reduceLeDiff, Int.reduceToNat, Int.reducePow, Int.reduceLT, Int.reduceEq, Int.reduceNeg, Nat.reducePow, List.reduceReplicate, Int.reduceLE, hmin, hml, him, hg, han, hmul, hor, hand, hbig, hc0, hi0])
                | (with_reducible refine qops.step fun T hT => ?_; simp (disch := omega) only [go_sem, Nat.reduceBEq, Nat.reduceLT, Nat.reduceEqDiff, reduceIte, Nat.reduceAdd, Nat.reduceMul, Nat.reduceSub, Nat.reduceLeDiff, Int.reduceToNat, Int.reducePow, Int.reduceLT, Int.reduceEq, Int.reduceNeg, Nat.reducePow, List.reduceReplicate, Int.reduceLE, hmin, hml, him, hg, han, hmul, hor, hand, hbig, hc0, hi0])
                | (with_reducible refine aops.nil ?_)
                | (with_reducible refine qops.nil ?_)
                | (with_reducible refine hT _ ?_; clear hT T)
                | (refine AWP.skip ?_; try simp only [AExit.then, AExit.inBlock, reduceIte, Nat.reduceEqDiff])
                | (refine AWP.exit ?_; try simp only [AExit.then, AExit.inBlock, reduceIte, Nat.reduceEqDiff])
                | (refine AWP.ret ?_; try simp only [AExit.then, AExit.inBlock, reduceIte, Nat.reduceEqDiff])
                | (refine AWP.cond rfl (fun h => ?_) (fun h => ?_) <;> (try simp only [decide_eq_true_eq, decide_eq_false_iff_not, Bool.true_eq_false, Bool.false_eq_true] at h) <;> (try contradiction))
                | (refine hQ' _ _ ?_; clear hQ' Q'; try simp only [AExit.then, AExit.inBlock, reduceIte, Nat.reduceEqDiff])
                | (refine hQ' _ ?_; clear hQ' Q'; try simp only [AExit.then, AExit.inBlock, reduceIte, Nat.reduceEqDiff])
                | (with_reducible refine Branch.split (fun h => ?_) (fun h => ?_) <;> (try simp only [decide_eq_true_eq, decide_eq_false_iff_not, Bool.not_true, Bool.not_false, Bool.true_eq_false, Bool.false_eq_true] at h) <;> (try contradiction) <;> (simp (disch := omega) only [go_sem, Nat.reduceBEq, Nat.reduceLT, Nat.reduceEqDiff, reduceIte, Nat.reduceAdd, Nat.reduceMul, Nat.reduceSub, Nat.reduceLeDiff, Int.reduceToNat, Int.reducePow, Int.reduceLT, Int.reduceEq, Int.reduceNeg, Nat.reducePow, List.reduceReplicate, Int.reduceLE, h, hmin, hml, him, hg, han, hmul, hor, hand, hbig, hc0, hi0]))
                | (with_reducible intro h; try simp only [h, go_sem, Nat.reduceBEq, Nat.reduceLT, Nat.reduceEqDiff, reduceIte, Nat.reduceAdd, Nat.reduceMul, Nat.reduceSub, Nat.reduceLeDiff, Int.reduceToNat, Int.reducePow, Int.reduceLT, Int.reduceEq, Int.reduceNeg, Nat.reducePow, List.reduceReplicate, Int.reduceLE, hmin, hml, him, hg, han, hmul, hor, hand, hbig, hc0, hi0]))
              simp only [bodyQ, go_sem, Nat.reduceBEq, Nat.reduceLT, Nat.reduceEqDiff, reduceIte, Nat.reduceAdd, Nat.reduceMul, Nat.reduceSub, Nat.reduceLeDiff, Int.reduceToNat, Int.reducePow, Int.reduceLT, Int.reduceEq, Int.reduceNeg, Nat.reducePow, List.reduceReplicate, Int.reduceLE]
              rw [if_neg (by omega)] at hp
              exact Fin.same ⟨by rw [hp, show ((i : Int) + 1).toNat = i + 1 by omega]; rfl, rfl⟩
          · repeat' (first
              | (refine AWP.seq ?_)
              | (refine AWP.block ?_)
              | (refine AWP.region_k fun Q' hQ' => ?_)
              | (refine AWP.draw_k rfl (by kernel_rfl) fun Q' hQ' => ?_)
              | (with_reducible refine aops.step fun T hT => ?_; simp (disch := omega) only [go_sem, Nat.reduceBEq, Nat.reduceLT, Nat.reduceEqDiff, reduceIte, Nat.reduceAdd, Nat.reduceMul, Nat.reduceSub, Nat.reduceLeDiff, Int.reduceToNat, Int.reducePow, Int.reduceLT, Int.reduceEq, Int.reduceNeg, Nat.reducePow, List.reduceReplicate, Int.reduceLE, hmin, hml, him, hg, han, hmul, hor, hand, hbig, hc0])
              | (with_reducible refine qops.step fun T hT => ?_; simp (disch := omega) only [go_sem, Nat.reduceBEq, Nat.reduceLT, Nat.reduceEqDiff, reduceIte, Nat.reduceAdd, Nat.reduceMul, Nat.reduceSub, Nat.reduceLeDiff, Int.reduceToNat, Int.reducePow, Int.reduceLT, Int.reduceEq, Int.reduceNeg, Nat.reducePow, List.reduceReplicate, Int.reduceLE, hmin, hml, him, hg, han, hmul, hor, hand, hbig, hc0])
              | (with_reducible refine aops.nil ?_)
              | (with_reducible refine qops.nil ?_)
              | (with_reducible refine hT _ ?_; clear hT T)
              | (refine AWP.skip ?_; try simp only [AExit.then, AExit.inBlock, reduceIte, Nat.reduceEqDiff])
              | (refine AWP.exit ?_; try simp only [AExit.then, AExit.inBlock, reduceIte, Nat.reduceEqDiff])
              | (refine AWP.ret ?_; try simp only [AExit.then, AExit.inBlock, reduceIte, Nat.reduceEqDiff])
              | (refine AWP.cond rfl (fun h => ?_) (fun h => ?_) <;> (try simp only [decide_eq_true_eq, decide_eq_false_iff_not, Bool.true_eq_false, Bool.false_eq_true] at h) <;> (try contradiction))
              | (refine hQ' _ _ ?_; clear hQ' Q'; try simp only [AExit.then, AExit.inBlock, reduceIte, Nat.reduceEqDiff])
              | (refine hQ' _ ?_; clear hQ' Q'; try simp only [AExit.then, AExit.inBlock, reduceIte, Nat.reduceEqDiff])
              | (with_reducible refine Branch.split (fun h => ?_) (fun h => ?_) <;> (try simp only [decide_eq_true_eq, decide_eq_false_iff_not, Bool.not_true, Bool.not_false, Bool.true_eq_false, Bool.false_eq_true] at h) <;> (try contradiction) <;> (simp (disch := omega) only [go_sem, Nat.reduceBEq, Nat.reduceLT, Nat.reduceEqDiff, reduceIte, Nat.reduceAdd, Nat.reduceMul, Nat.reduceSub, Nat.reduceLeDiff, Int.reduceToNat, Int.reducePow, Int.reduceLT, Int.reduceEq, Int.reduceNeg, Nat.reducePow, List.reduceReplicate, Int.reduceLE, h, hmin, hml, him, hg, han, hmul, hor, hand, hbig, hc0]))
              | (with_reducible intro h; try simp only [h, go_sem, Nat.reduceBEq, Nat.reduceLT, Nat.reduceEqDiff, reduceIte, Nat.reduceAdd, Nat.reduceMul, Nat.reduceSub, Nat.reduceLeDiff, Int.reduceToNat, Int.reducePow, Int.reduceLT, Int.reduceEq, Int.reduceNeg, Nat.reducePow, List.reduceReplicate, Int.reduceLE, hmin, hml, him, hg, han, hmul, hor, hand, hbig, hc0]))
            simp only [bodyQ, go_sem, Nat.reduceBEq, Nat.reduceLT, Nat.reduceEqDiff, reduceIte, Nat.reduceAdd, Nat.reduceMul, Nat.reduceSub, Nat.reduceLeDiff, Int.reduceToNat, Int.reducePow, Int.reduceLT, Int.reduceEq, Int.reduceNeg, Nat.reducePow, List.reduceReplicate, Int.reduceLE]
            rw [if_neg (by omega)] at hp
            exact Fin.same ⟨by rw [hp, show ((i : Int) + 1).toNat = i + 1 by omega]; rfl, rfl⟩
    · by_cases h9 : (bs.length : Int) < 9
      · repeat' (first
          | (refine AWP.seq ?_)
          | (refine AWP.block ?_)
          | (refine AWP.region_k fun Q' hQ' => ?_)
          | (refine AWP.draw_k rfl (by kernel_rfl) fun Q' hQ' => ?_)
          | (with_reducible refine aops.step fun T hT => ?_; simp (disch := omega) only [go_sem, Nat.reduceBEq, Nat.reduceLT, Nat.reduceEqDiff, reduceIte, Nat.reduceAdd, Nat.reduceMul, Nat.reduceSub, Nat.reduceLeDiff, Int.reduceToNat, Int.reducePow, Int.reduceLT, Int.reduceEq, Int.reduceNeg, Nat.reducePow, List.reduceReplicate, Int.reduceLE, hmin, hml, him, h9])
          | (with_reducible refine qops.step fun T hT => ?_; simp (disch := omega) only [go_sem, Nat.reduceBEq, Nat.reduceLT, Nat.reduceEqDiff, reduceIte, Nat.reduceAdd, Nat.reduceMul, Nat.reduceSub, Nat.reduceLeDiff, Int.reduceToNat, Int.reducePow, Int.reduceLT, Int.reduceEq, Int.reduceNeg, Nat.reducePow, List.reduceReplicate, Int.reduceLE, hmin, hml, him, h9])
          | (with_reducible refine aops.nil ?_)
          | (with_reducible refine qops.nil ?_)
          | (with_reducible refine hT _ ?_; clear hT T)
          | (refine AWP.skip ?_; try simp only [AExit.then, AExit.inBlock, reduceIte, Nat.reduceEqDiff])
          | (refine AWP.exit ?_; try simp only [AExit.then, AExit.inBlock, reduceIte, Nat.reduceEqDiff])
          | (refine AWP.ret ?_; try simp only [AExit.then, AExit.inBlock, reduceIte, Nat.reduceEqDiff])
          | (refine AWP.cond rfl (fun h => ?_) (fun h => ?_) <;> (try simp only [decide_eq_true_eq, decide_eq_false_iff_not, Bool.true_eq_false, Bool.false_eq_true] at h) <;> (try contradiction))
          | (refine hQ' _ _ ?_; clear hQ' Q'; try simp only [AExit.then, AExit.inBlock, reduceIte, Nat.reduceEqDiff])
          | (refine hQ' _ ?_; clear hQ' Q'; try simp only [AExit.then, AExit.inBlock, reduceIte, Nat.reduceEqDiff])
          | (with_reducible refine Branch.split (fun h => ?_) (fun h => ?_) <;> (try simp only [decide_eq_true_eq, decide_eq_false_iff_not, Bool.not_true, Bool.not_false, Bool.true_eq_false, Bool.false_eq_true] at h) <;> (try contradiction) <;> (simp (disch := omega) only [go_sem, Nat.reduceBEq, Nat.reduceLT, Nat.reduceEqDiff, reduceIte, Nat.reduceAdd, Nat.reduceMul, Nat.reduceSub, Nat.reduceLeDiff, Int.reduceToNat, Int.reducePow, Int.reduceLT, Int.reduceEq, Int.reduceNeg, Nat.reducePow, List.reduceReplicate, Int.reduceLE, h, hmin, hml, him, h9]))
          | (with_reducible intro h; try simp only [h, go_sem, Nat.reduceBEq, Nat.reduceLT, Nat.reduceEqDiff, reduceIte, Nat.reduceAdd, Nat.reduceMul, Nat.reduceSub, Nat.reduceLeDiff, Int.reduceToNat, Int.reducePow, Int.reduceLT, Int.reduceEq, Int.reduceNeg, Nat.reducePow, List.reduceReplicate, Int.reduceLE, hmin, hml, him, h9]))
        simp only [bodyQ, go_sem, Nat.reduceBEq, Nat.reduceLT, Nat.reduceEqDiff, reduceIte, Nat.reduceAdd, Nat.reduceMul, Nat.reduceSub, Nat.reduceLeDiff, Int.reduceToNat, Int.reducePow, Int.reduceLT, Int.reduceEq, Int.reduceNeg, Nat.reducePow, List.reduceReplicate, Int.reduceLE]
        rw [List.drop_eq_nil_of_le (by omega), show 9 - i = (8 - i) + 1 by omega, tkGo] at hp
        exact Fin.same ⟨by rw [hp]; rfl, rfl⟩
      · repeat' (first
          | (refine AWP.seq ?_)
          | (refine AWP.block ?_)
          | (refine AWP.region_k fun Q' hQ' => ?_)
          | (refine AWP.draw_k rfl (by kernel_rfl) fun Q' hQ' => ?_)
          | (with_reducible refine aops.step fun T hT => ?_; simp (disch := omega) only [go_sem, Nat.reduceBEq, Nat.reduceLT, Nat.reduceEqDiff, reduceIte, Nat.reduceAdd, Nat.reduceMul, Nat.reduceSub, Nat.reduceLeDiff, Int.reduceToNat, Int.reducePow, Int.reduceLT, Int.reduceEq, Int.reduceNeg, Nat.reducePow, List.reduceReplicate, Int.reduceLE, hmin, hml, him, h9])
          | (with_reducible refine qops.step fun T hT => ?_; simp (disch := omega) only [go_sem, Nat.reduceBEq, Nat.reduceLT, Nat.reduceEqDiff, reduceIte, Nat.reduceAdd, Nat.reduceMul, Nat.reduceSub, Nat.reduceLeDiff, Int.reduceToNat, Int.reducePow, Int.reduceLT, Int.reduceEq, Int.reduceNeg, Nat.reducePow, List.reduceReplicate, Int.reduceLE, hmin, hml, him, h9])
          | (with_reducible refine aops.nil ?_)
          | (with_reducible refine qops.nil ?_)
          | (with_reducible refine hT _ ?_; clear hT T)
          | (refine AWP.skip ?_; try simp only [AExit.then, AExit.inBlock, reduceIte, Nat.reduceEqDiff])
          | (refine AWP.exit ?_; try simp only [AExit.then, AExit.inBlock, reduceIte, Nat.reduceEqDiff])
          | (refine AWP.ret ?_; try simp only [AExit.then, AExit.inBlock, reduceIte, Nat.reduceEqDiff])
          | (refine AWP.cond rfl (fun h => ?_) (fun h => ?_) <;> (try simp only [decide_eq_true_eq, decide_eq_false_iff_not, Bool.true_eq_false, Bool.false_eq_true] at h) <;> (try contradiction))
          | (refine hQ' _ _ ?_; clear hQ' Q'; try simp only [AExit.then, AExit.inBlock, reduceIte, Nat.reduceEqDiff])
          | (refine hQ' _ ?_; clear hQ' Q'; try simp only [AExit.then, AExit.inBlock, reduceIte, Nat.reduceEqDiff])
          | (with_reducible refine Branch.split (fun h => ?_) (fun h => ?_) <;> (try simp only [decide_eq_true_eq, decide_eq_false_iff_not, Bool.not_true, Bool.not_false, Bool.true_eq_false, Bool.false_eq_true] at h) <;> (try contradiction) <;> (simp (disch := omega) only [go_sem, Nat.reduceBEq, Nat.reduceLT, Nat.reduceEqDiff, reduceIte, Nat.reduceAdd, Nat.reduceMul, Nat.reduceSub, Nat.reduceLeDiff, Int.reduceToNat, Int.reducePow, Int.reduceLT, Int.reduceEq, Int.reduceNeg, Nat.reducePow, List.reduceReplicate, Int.reduceLE, h, hmin, hml, him, h9]))
          | (with_reducible intro h; try simp only [h, go_sem, Nat.reduceBEq, Nat.reduceLT, Nat.reduceEqDiff, reduceIte, Nat.reduceAdd, Nat.reduceMul, Nat.reduceSub, Nat.reduceLeDiff, Int.reduceToNat, Int.reducePow, Int.reduceLT, Int.reduceEq, Int.reduceNeg, Nat.reducePow, List.reduceReplicate, Int.reduceLE, hmin, hml, him, h9]))
        simp only [bodyQ, go_sem, Nat.reduceBEq, Nat.reduceLT, Nat.reduceEqDiff, reduceIte, Nat.reduceAdd, Nat.reduceMul, Nat.reduceSub, Nat.reduceLeDiff, Int.reduceToNat, Int.reducePow, Int.reduceLT, Int.reduceEq, Int.reduceNeg, Nat.reducePow, List.reduceReplicate, Int.reduceLE]
        rw [show 9 - i = 0 by omega, tkGo] at hp
        exact Fin.same ⟨by rw [hp]; rfl, rfl⟩

end Go.Proofs.Ytkkhbmpcpilmfaa.VL

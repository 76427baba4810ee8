/- Layer 17: all records, as long as there is room; a packet's bytes. -/
import Derived.Test.YtkkhbmpcpilmfaaZCd
import Derived.Test.YtkkhbmpcpilmfaaZPktH
-- STEPWISE
-- WK
set_option linter.unusedVariables false
set_option linter.unusedSimpArgs false
set_option maxRecDepth 10000
namespace Go.Proofs.Ytkkhbmpcpilmfaa.VL
open Go Go.RowKit Go.Lib

def stN (p : Pk) (lim : Int) : Nat → List UInt8
  | 0 => zerosB 12 ++ qsB p.q
  | 1 => (fill1 p lim).1
  | 2 => (fill2 p lim).1
  | _ => (fill3 p lim).1
def csN (p : Pk) (lim : Int) : Nat → List AV
  | 0 => [vi 0, vi 0, vi 0]
  | 1 => [vi (fill1 p lim).2.1, vi 0, vi 0]
  | 2 => [vi (fill1 p lim).2.1, vi (fill2 p lim).2.1, vi 0]
  | _ => [vi (fill1 p lim).2.1, vi (fill2 p lim).2.1, vi (fill3 p lim).2.1]
def ctN (p : Pk) (lim : Int) : Nat → Bool
  | 0 => false
  | 1 => (fill1 p lim).2.2
  | 2 => (fill2 p lim).2.2
  | _ => (fill3 p lim).2.2
theorem b0_len {p : Pk} (hp : POk p) : (zerosB 12 ++ qsB p.q).length ≤ 25912 := by
  have h1 := qsB_len p.q fun q hq => (hp.q q hq).2
  have h2 := hp.lq
  have hz : (zerosB 12).length = 12 := by simp [zerosB]
  rw [List.length_append, hz]
  omega
theorem fill1_len {p : Pk} (hp : POk p) (lim : Int) : (fill1 p lim).1.length ≤ 152412 ∧ (fill1 p lim).2.1 ≤ 100 := by
  have h0 := b0_len hp
  obtain ⟨h1, h2, h3⟩ := fillR_len p lim p.a (zerosB 12 ++ qsB p.q) hp.a
  have := hp.la
  unfold fill1
  omega
theorem fill2_len {p : Pk} (hp : POk p) (lim : Int) : (fill2 p lim).1.length ≤ 278912 ∧ (fill2 p lim).2.1 ≤ 100 := by
  have h0 := fill1_len hp lim
  obtain ⟨h1, h2, h3⟩ := fillR_len p lim p.u (fill1 p lim).1 hp.u
  have := hp.lu
  unfold fill2
  split
  · dsimp only; omega
  · omega
theorem fill3_len {p : Pk} (hp : POk p) (lim : Int) : (fill3 p lim).1.length ≤ 405412 ∧ (fill3 p lim).2.1 ≤ 100 := by
  have h0 := fill2_len hp lim
  obtain ⟨h1, h2, h3⟩ := fillR_len p lim p.m (fill2 p lim).1 hp.m
  have := hp.lm
  unfold fill3
  split
  · dsimp only; omega
  · omega
abbrev LI (H : List Box) (p : Pk) (lim : Int) := {s : Nat × List Box × Nat × Nat // s.1 ≤ 3 ∧ FS H p s.2.1 s.2.2.1 s.2.2.2 (stN p lim s.1) (csN p lim s.1) ∧ ctN p lim s.1 = false}

set_option maxHeartbeats 8000000 in
theorem lists_loop (p : Pk) (hp : POk p) (lim : Int) (Hx0 : List Box) (b0 g0 : Nat)
    (E : Ent) (hF : FS E.H p Hx0 b0 g0 (zerosB 12 ++ qsB p.q) [vi 0, vi 0, vi 0]) (hE : E.n = 94) (Q : AExit → ASt → Prop) (body : Code) (hbody : (Try.f10.body).bind lastLoop = some body)
    (hQ : ∀ k Hx b g, FS E.H p Hx b g (fill3 p lim).1 [vi (fill1 p lim).2.1, vi (fill2 p lim).2.1, vi (fill3 p lim).2.1] →
      Keeps k [(2, .ptr E.H.length 0 0), (6, .sl b g 0 (fill3 p lim).1.length 1 false), (9, vi (if (fill3 p lim).2.2 then ior .i64 p.fl 512 else p.fl)), (10, .ptr (E.H.length + 2) 0 0)] → Q (.exit 2) ⟨k, Hx⟩) :
    AWP Try.prog E (.loop body) Q ⟨[(1, vi lim), (2, .ptr E.H.length 0 0), (6, .sl b0 g0 0 (zerosB 12 ++ qsB p.q).length 1 false), (9, vi p.fl), (10, .ptr (E.H.length + 2) 0 0), (45, .agg [.ptr E.H.length 0 3, .ptr E.H.length 0 4, .ptr E.H.length 0 5]), (46, vi 0)], Hx0⟩ := by
  have hq : ∀ q ∈ p.q, q.n.length ≤ 9223372036854775807 := fun q hq => by have := (hp.q q hq).2; omega
  have l0 := b0_len hp
  have l1 := fill1_len hp lim
  have l2 := fill2_len hp lim
  have hfa := fun cs0 hcs h0 => fill_loop p hq p.a hp.a hp.la lim 0 (by omega) cs0 hcs h0
  have hfu := fun cs0 hcs h0 => fill_loop p hq p.u hp.u hp.lu lim 1 (by omega) cs0 hcs h0
  have hfm := fun cs0 hcs h0 => fill_loop p hq p.m hp.m hp.lm lim 2 (by omega) cs0 hcs h0
  obtain ⟨base, n, w, H, β, hI⟩ := E
  dsimp only at *
  subst hE
  dsimp only [lastLoop, firstLoop, Option.bind, Try.f10] at hbody
  injection hbody with hbody
  subst hbody
  refine AWP.loop (ι := LI H p lim) (fun s => ⟨[(1, vi lim), (2, .ptr H.length 0 0), (6, .sl s.1.2.2.1 s.1.2.2.2 0 (stN p lim s.1.1).length 1 false), (9, vi p.fl), (10, .ptr (H.length + 2) 0 0), (45, .agg [.ptr H.length 0 3, .ptr H.length 0 4, .ptr H.length 0 5]), (46, vi s.1.1)], s.1.2.1⟩) (fun s => 3 - s.1.1)
    ⟨(0, Hx0, b0, g0), by dsimp only; omega, hF, rfl⟩ ?_ ?_
  · dsimp only [stN]
    exact Coe.kp
  · rintro ⟨⟨i, Hx, b, g⟩, hi, hFS, hcut⟩
    dsimp only at hi hFS hcut ⊢
    have hpx := hFS.hp
    rcases i with _ | _ | _ | _ | i
    · dsimp only [stN, csN, ctN] at hFS hcut ⊢
      have hloop := fun Q hQ4 hQ2 => hfa [vi 0, vi 0, vi 0] rfl rfl (zerosB 12 ++ qsB p.q) (by omega) p.fl (.agg [.ptr H.length 0 3, .ptr H.length 0 4, .ptr H.length 0 5]) Hx b g ⟨base, 94, w, H, β, hI⟩ hFS rfl Q _ rfl hQ4 hQ2
      refine wk (wA hpx wT) wT ?_
      refine AWP.coe ?_ (hloop _ ?_ ?_)
      · exact Coe.kp
      · intro k Hx' b' g' hF' hc' hk
        simp only [Keeps, List.mem_cons, List.not_mem_nil, or_false, forall_eq_or_imp, forall_eq] at hk
        obtain ⟨h1, h2, h6, h9, h10, h45, h46⟩ := hk
        refine wk (wA h46 wT) wT ?_
        refine ⟨⟨(1, Hx', b', g'), by dsimp only; omega, hF', hc'⟩, ?_, by dsimp only; omega⟩
        dsimp only [stN]
        refine Coe.keep ?_
        simp (disch := omega) only [Keeps, List.mem_cons, List.not_mem_nil, or_false, forall_eq_or_imp, forall_eq, h1, h2, h6, h9, h10, h45, h46, fill1, go_sem, Nat.reduceBEq, Nat.reduceLT, Nat.reduceEqDiff, reduceIte, Nat.reduceAdd, Nat.reduceMul, Nat.reduceSub, Nat.reduceLeDiff, Int.reduceToNat, Int.reducePow, Int.reduceLT, Int.reduceEq, Int.reduceNeg, Nat.reducePow, List.reduceReplicate, Int.reduceLE]
        all_goals rfl
      · intro k Hx' b' g' hF' hc' hk
        simp only [Keeps, List.mem_cons, List.not_mem_nil, or_false, forall_eq_or_imp, forall_eq] at hk
        obtain ⟨h1, h2, h6, h9, h10⟩ := hk
        have f1 : (fill1 p lim).2.2 = true := hc'
        have f2 : fill2 p lim = ((fill1 p lim).1, 0, true) := by unfold fill2; rw [if_pos f1]
        have f3 : fill3 p lim = ((fill1 p lim).1, 0, true) := by unfold fill3; rw [f2, if_pos rfl]
        refine hQ k Hx' b' g' (by rw [f3, f2]; exact hF') ?_
        simp (disch := omega) only [Keeps, List.mem_cons, List.not_mem_nil, or_false, forall_eq_or_imp, forall_eq, h1, h2, h6, h9, h10, f3, reduceIte, go_sem, Nat.reduceBEq, Nat.reduceLT, Nat.reduceEqDiff, reduceIte, Nat.reduceAdd, Nat.reduceMul, Nat.reduceSub, Nat.reduceLeDiff, Int.reduceToNat, Int.reducePow, Int.reduceLT, Int.reduceEq, Int.reduceNeg, Nat.reducePow, List.reduceReplicate, Int.reduceLE]
        all_goals rfl
    · dsimp only [stN, csN, ctN] at hFS hcut ⊢
      have f2 : fill2 p lim = fillR p lim (fill1 p lim).1 p.u := by unfold fill2; rw [if_neg (by rw [show (fill1 p lim).2.2 = false from hcut]; simp)]
      have hloop := fun Q hQ4 hQ2 => hfu [vi (fill1 p lim).2.1, vi 0, vi 0] rfl rfl (fill1 p lim).1 (by omega) p.fl (.agg [.ptr H.length 0 3, .ptr H.length 0 4, .ptr H.length 0 5]) Hx b g ⟨base, 94, w, H, β, hI⟩ hFS rfl Q _ rfl hQ4 hQ2
      refine wk (wA hpx wT) wT ?_
      refine AWP.coe ?_ (hloop _ ?_ ?_)
      · exact Coe.kp
      · intro k Hx' b' g' hF' hc' hk
        simp only [Keeps, List.mem_cons, List.not_mem_nil, or_false, forall_eq_or_imp, forall_eq] at hk
        obtain ⟨h1, h2, h6, h9, h10, h45, h46⟩ := hk
        rw [← f2] at hF' hc' h6
        refine wk (wA h46 wT) wT ?_
        refine ⟨⟨(2, Hx', b', g'), by dsimp only; omega, hF', hc'⟩, ?_, by dsimp only; omega⟩
        dsimp only [stN]
        refine Coe.keep ?_
        simp (disch := omega) only [Keeps, List.mem_cons, List.not_mem_nil, or_false, forall_eq_or_imp, forall_eq, h1, h2, h6, h9, h10, h45, h46, fill1, go_sem, Nat.reduceBEq, Nat.reduceLT, Nat.reduceEqDiff, reduceIte, Nat.reduceAdd, Nat.reduceMul, Nat.reduceSub, Nat.reduceLeDiff, Int.reduceToNat, Int.reducePow, Int.reduceLT, Int.reduceEq, Int.reduceNeg, Nat.reducePow, List.reduceReplicate, Int.reduceLE]
        all_goals rfl
      · intro k Hx' b' g' hF' hc' hk
        simp only [Keeps, List.mem_cons, List.not_mem_nil, or_false, forall_eq_or_imp, forall_eq] at hk
        obtain ⟨h1, h2, h6, h9, h10⟩ := hk
        rw [← f2] at hF' hc' h6
        have f3 : fill3 p lim = ((fill2 p lim).1, 0, true) := by unfold fill3; rw [if_pos hc']
        refine hQ k Hx' b' g' (by rw [f3]; exact hF') ?_
        simp (disch := omega) only [Keeps, List.mem_cons, List.not_mem_nil, or_false, forall_eq_or_imp, forall_eq, h1, h2, h6, h9, h10, f3, reduceIte, go_sem, Nat.reduceBEq, Nat.reduceLT, Nat.reduceEqDiff, reduceIte, Nat.reduceAdd, Nat.reduceMul, Nat.reduceSub, Nat.reduceLeDiff, Int.reduceToNat, Int.reducePow, Int.reduceLT, Int.reduceEq, Int.reduceNeg, Nat.reducePow, List.reduceReplicate, Int.reduceLE]
        all_goals rfl
    · dsimp only [stN, csN, ctN] at hFS hcut ⊢
      have f3 : fill3 p lim = fillR p lim (fill2 p lim).1 p.m := by unfold fill3; rw [if_neg (by rw [show (fill2 p lim).2.2 = false from hcut]; simp)]
      have hloop := fun Q hQ4 hQ2 => hfm [vi (fill1 p lim).2.1, vi (fill2 p lim).2.1, vi 0] rfl rfl (fill2 p lim).1 (by omega) p.fl (.agg [.ptr H.length 0 3, .ptr H.length 0 4, .ptr H.length 0 5]) Hx b g ⟨base, 94, w, H, β, hI⟩ hFS rfl Q _ rfl hQ4 hQ2
      refine wk (wA hpx wT) wT ?_
      refine AWP.coe ?_ (hloop _ ?_ ?_)
      · exact Coe.kp
      · intro k Hx' b' g' hF' hc' hk
        simp only [Keeps, List.mem_cons, List.not_mem_nil, or_false, forall_eq_or_imp, forall_eq] at hk
        obtain ⟨h1, h2, h6, h9, h10, h45, h46⟩ := hk
        rw [← f3] at hF' hc' h6
        refine wk (wA h46 wT) wT ?_
        refine ⟨⟨(3, Hx', b', g'), by dsimp only; omega, hF', hc'⟩, ?_, by dsimp only; omega⟩
        dsimp only [stN]
        refine Coe.keep ?_
        simp (disch := omega) only [Keeps, List.mem_cons, List.not_mem_nil, or_false, forall_eq_or_imp, forall_eq, h1, h2, h6, h9, h10, h45, h46, fill1, go_sem, Nat.reduceBEq, Nat.reduceLT, Nat.reduceEqDiff, reduceIte, Nat.reduceAdd, Nat.reduceMul, Nat.reduceSub, Nat.reduceLeDiff, Int.reduceToNat, Int.reducePow, Int.reduceLT, Int.reduceEq, Int.reduceNeg, Nat.reducePow, List.reduceReplicate, Int.reduceLE]
        all_goals rfl
      · intro k Hx' b' g' hF' hc' hk
        simp only [Keeps, List.mem_cons, List.not_mem_nil, or_false, forall_eq_or_imp, forall_eq] at hk
        obtain ⟨h1, h2, h6, h9, h10⟩ := hk
        rw [← f3] at hF' hc' h6
        refine hQ k Hx' b' g' hF' ?_
        simp (disch := omega) only [Keeps, List.mem_cons, List.not_mem_nil, or_false, forall_eq_or_imp, forall_eq, h1, h2, h6, h9, h10, hc', reduceIte, go_sem, Nat.reduceBEq, Nat.reduceLT, Nat.reduceEqDiff, reduceIte, Nat.reduceAdd, Nat.reduceMul, Nat.reduceSub, Nat.reduceLeDiff, Int.reduceToNat, Int.reducePow, Int.reduceLT, Int.reduceEq, Int.reduceNeg, Nat.reducePow, List.reduceReplicate, Int.reduceLE]
        all_goals rfl
    · dsimp only [stN, csN, ctN] at hFS hcut ⊢
      refine wk (wA hpx wT) wT ?_
      refine hQ _ _ _ _ hFS ?_
      rw [if_neg (by rw [show (fill3 p lim).2.2 = false from hcut]; simp)]
      simp (disch := omega) only [Keeps, List.mem_cons, List.not_mem_nil, or_false, forall_eq_or_imp, forall_eq, go_sem, Nat.reduceBEq, Nat.reduceLT, Nat.reduceEqDiff, reduceIte, Nat.reduceAdd, Nat.reduceMul, Nat.reduceSub, Nat.reduceLeDiff, Int.reduceToNat, Int.reducePow, Int.reduceLT, Int.reduceEq, Int.reduceNeg, Nat.reducePow, List.reduceReplicate, Int.reduceLE]
    · omega

end Go.Proofs.Ytkkhbmpcpilmfaa.VL

/- Layer 13: the law of power that goes. -/
import Derived.Test.YtkkhbmpcpilmfaaJrnN
import Derived.Test.YtkkhbmpcpilmfaaJrnR
-- STEPWISE
-- TAIL
-- HOLE 15 0 [(.same, []), (.same, []), (.same, []), (.same, []), (.same, []), (.same, []), (.same, []), (.same, []), (.same, []), (.same, []), (.same, [0]), (.wr 0, [])]
-- HOLE 17 2 [(.same, [3, 4]), (.same, [3, 4]), (.same, [3, 4]), (.same, [3, 4]), (.same, [3, 4]), (.same, [3, 4]), (.same, [3, 4]), (.same, [3, 4]), (.same, [3, 4]), (.same, [3, 4]), (.same, [3, 4]), (.same, [3, 4]), (.same, [3, 4]), (.new 3, [4]), (.new 4, [3]), (.wr 3, []), (.wr 4, []), (.same, [])]
-- HOLE 19 0 [(.same, []), (.same, []), (.same, []), (.same, []), (.same, []), (.same, []), (.same, []), (.same, []), (.same, []), (.same, [3]), (.same, [3, 4]), (.wr 3, []), (.wr 4, []), (.same, [])]
-- HOLE 32 0 [(.same, []), (.same, [0]), (.wr 0, []), (.wr 1, [])]
set_option linter.unusedVariables false
set_option linter.unusedSimpArgs false
set_option maxRecDepth 10000
namespace Go.Proofs.Ytkkhbmpcpilmfaa.VL
open Go Go.RowKit Go.Lib

structure Tn where
  x : Bool
  f : Int
  n : List UInt8
abbrev turnG (l : List Tn) : List (List AV) := l.map fun t => [vb t.x, .v (.int .u8 t.f), vs t.n]
@[go_sem] theorem turnG_length (l : List Tn) : (turnG l).length = l.length := by simp [turnG]
@[go_sem] theorem turnG_get (l : List Tn) (i : Nat) : (turnG l)[i]? = (l[i]?).map fun t => [vb t.x, .v (.int .u8 t.f), vs t.n] := by simp [turnG]
theorem lt_turn {n : Nat} (l : List Tn) : Lt n (.lst 3 (turnG l)) := .lst _ _ fun i j g c hi hj => by
  simp only [turnG, List.getElem?_map] at hi
  obtain ⟨b, _, rfl⟩ := Option.map_eq_some_iff.1 hi
  rcases j with _ | _ | _ | j
  · simp at hj; subst hj; exact .v _
  · simp at hj; subst hj; exact .v _
  · simp at hj; subst hj; exact .v _
  · simp at hj
theorem lt_stN (l : List Tn) (h0 h1 : Nat) (i : Int) (k : Nat) (hk : h0 < k ∧ h1 < k) : ∀ p ∈ ([(0, .lst 3 (turnG l)), (3, .ptr h0 0 0), (5, .ptr h1 0 0), (7, vi i)] : List (Nat × AV)), Lt k p.2 := fun p hp => by
  simp only [List.mem_cons, List.not_mem_nil, or_false] at hp
  rcases hp with rfl | rfl | rfl | rfl
  all_goals first | exact .v _ | exact lt_turn _ | exact .ptr _ _ _ (by omega)


/-- The first loop of a code. -/
def firstLoop : Code → Option Code
  | .loop c => some c
  | .seq a b => match firstLoop a with
    | some c => some c
    | none => firstLoop b
  | .block _ c => firstLoop c
  | .cond _ a b => match firstLoop a with
    | some c => some c
    | none => firstLoop b
  | _ => none
abbrev NvI (l : List Tn) := {p : Nat × List (List UInt8) × Rc // p.1 ≤ l.length ∧ Good p.2.1 p.2.2 ∧ p.2.2.q ≤ (p.1 : Int) + 1 ∧ p.2.2.g ≤ (p.1 : Int) + 1}
abbrev nvS (l : List Tn) (H : List Box) (p : NvI l) : ASt := ⟨[(0, .lst 3 (turnG l)), (3, .ptr H.length 0 0), (5, .ptr (H.length + 1) 0 0), (7, vi p.1.1)], H ++ [⟨[.lst 64 (secG p.1.2.1), vi (-1), vb false], 0, 0, false⟩, ⟨[vi p.1.2.2.q, vi p.1.2.2.g, vs p.1.2.2.n], 0, 0, false⟩]⟩
theorem nv_fin (s' : List (List UInt8)) (x' : Rc) (hG : Good s' x') : (∀ f, -1 ≤ f → ∀ H, ASpec Try.prog 25 [.agg [.lst 64 (secG s'), vi f, vb false], vi (-1)] H (Gives (.tup [.agg [.lst 64 (secG s'), vi (-1), vb false], vi 0]) H)) ∧
    (∀ H, ASpec Try.prog 29 [.agg [.lst 64 (secG s'), vi (-1), vb false]] H (Gives (.tup [.agg [vi x'.q, vi x'.g, vs x'.n], vi 0]) H)) ∧
    (∀ H, ASpec Try.prog 28 [.agg [.lst 64 (secG s'), vi (-1), vb true]] H (Gives (.tup [.agg [.lst 64 (secG s'), vi (-1), vb false], vi 0]) H)) := by
  have hl3 := hG.len
  refine ⟨fun f hf H => arm_spec s' f (-1) (by omega) hG.a64 hf (by omega) H, fun H => ?_, fun H => wake_spec s' (-1) true (by omega) hG.a64 (by omega) H⟩
  have := last_spec ⟨s', -1, false⟩ (by dsimp only; omega) hG.a64 H
  rw [hG.last (by omega)] at this
  exact this

set_option maxHeartbeats 8000000 in
theorem nv_ftok (l : List Tn) (i : Nat) (s : List (List UInt8)) (q g : Int) (no : List UInt8) (hl100 : ¬ (100 : Int) < (l.length : Int)) (hi : i ≤ l.length) (hgood : Good s ⟨q, g, no⟩) (hq : q ≤ (i : Int) + 1) (hgg : g ≤ (i : Int) + 1) (hc : (i : Int) < (l.length : Int))
    (fu : Int) (note : List UInt8) (hg : l[i]? = some ⟨true, fu, note⟩) (hf0 : 0 ≤ fu) (hf1 : fu ≤ 255) (hnl : note.length ≤ 9223372036854775807) (h30 : ¬ (30 : Int) < (note.length : Int)) (hfu : fu < 255)
    (s' : List (List UInt8)) (f' : Int) (e : jput ⟨s, fu, false⟩ ⟨q + 1, g + 1, note⟩ = (⟨s', f', false⟩, ⟨q + 1, g + 1, note⟩, 0)) (hf' : -1 ≤ f') (hG : Good s' ⟨q + 1, g + 1, note⟩)
    (base : Nat) (w : World) (H : List Box) (β : Pl) (hI : Inv base w H β) (Q : AExit → ASt → Prop) (body : Code) (hbody : (Try.f7.body).bind firstLoop = some body) :
    AWP Try.prog ⟨base, 161, w, H, β, hI⟩ body (AExit.then (fun σ' => ∃ i' : NvI l, Coe ⟨base, 161, w, H, β, hI⟩ σ' (nvS l H i') ∧ l.length - i'.1.1 < l.length - i) Q) (nvS l H ⟨(i, s, ⟨q, g, no⟩), hi, hgood, hq, hgg⟩) := by
  have hm := jmay_spec hgood.may
  dsimp only at hm
  have hy1 : jmay ⟨q + 1, g, note⟩ = true := by simp only [jmay, decide_eq_true_eq]; exact ⟨by omega, by omega, by omega, by omega, by omega⟩
  have hy2 : jmay ⟨q + 1, g + 1, note⟩ = true := by simp only [jmay, decide_eq_true_eq]; exact ⟨by omega, by omega, by omega, by omega, by omega⟩
  have hlen := hgood.len
  have hwr := fun H => write_spec ⟨s, fu, false⟩ g note (by dsimp only; omega) (by dsimp only; omega) hgood.a64 hnl H
  have harm := fun H => arm_spec s (-1) fu (by omega) hgood.a64 (by omega) (by omega) H
  have hnx := fun H => next_spec ⟨s, fu, false⟩ note (by dsimp only; omega) (by dsimp only; omega) hgood.a64 hnl H
  rw [hgood.next (f := fu) (by omega) (n := note) hy2] at hnx
  generalize jwrite ⟨s, fu, false⟩ g note = y at hwr
  obtain ⟨⟨s1, f1, d1⟩, ⟨q1, g1, n1⟩, e1⟩ := y
  have hwr : ∀ H, ASpec Try.prog 26 [.agg [.lst 64 (secG s), vi fu, vb false], vi g, vs note] H (Gives (.tup [.agg [.lst 64 (secG s1), vi f1, vb d1], .agg [vi q1, vi g1, vs n1], vi e1]) H) := hwr
  have hgl : ¬ g = g + 1 := by omega
  have hgl2 : ¬ g + 1 < g := by omega
  rw [e] at hnx
  obtain ⟨ha, hla, hwk⟩ := nv_fin s' _ hG
  have ha := ha f' hf'
  have hnx : ∀ H, ASpec Try.prog 27 [.agg [.lst 64 (secG s), vi fu, vb false], vs note] H (Gives (.tup [.agg [.lst 64 (secG s'), vi f', vb false], .agg [vi (q + 1), vi (g + 1), vs note], vi 0]) H) := hnx
  dsimp only at hla
  dsimp only [firstLoop, Option.bind, Try.f7] at hbody
  injection hbody with hbody
  subst hbody
  dsimp only [nvS]
  repeat' (first
    | (refine AWP.seq ?_)
    | (refine AWP.block ?_)
    | (refine AWP.drawH_k (id := 15) 0 [(.same, []), (.same, []), (.same, []), (.same, []), (.same, []), (.same, []), (.same, []), (.same, []), (.same, []), (.same, []), (.same, [0]), (.wr 0, [])] rfl (by decide +kernel) fun Q' hQ' => ?_)
    | (refine AWP.drawH0_k (id := 15) 0 [(.same, []), (.same, []), (.same, []), (.same, []), (.same, []), (.same, []), (.same, []), (.same, []), (.same, []), (.same, []), (.same, [0]), (.wr 0, [])] rfl (by decide +kernel) fun Q' hQ' => ?_)
    | (refine AWP.drawH_k (id := 17) 2 [(.same, [3, 4]), (.same, [3, 4]), (.same, [3, 4]), (.same, [3, 4]), (.same, [3, 4]), (.same, [3, 4]), (.same, [3, 4]), (.same, [3, 4]), (.same, [3, 4]), (.same, [3, 4]), (.same, [3, 4]), (.same, [3, 4]), (.same, [3, 4]), (.new 3, [4]), (.new 4, [3]), (.wr 3, []), (.wr 4, []), (.same, [])] rfl (by decide +kernel) fun Q' hQ' => ?_)
    | (refine AWP.drawH0_k (id := 17) 2 [(.same, [3, 4]), (.same, [3, 4]), (.same, [3, 4]), (.same, [3, 4]), (.same, [3, 4]), (.same, [3, 4]), (.same, [3, 4]), (.same, [3, 4]), (.same, [3, 4]), (.same, [3, 4]), (.same, [3, 4]), (.same, [3, 4]), (.same, [3, 4]), (.new 3, [4]), (.new 4, [3]), (.wr 3, []), (.wr 4, []), (.same, [])] rfl (by decide +kernel) fun Q' hQ' => ?_)
    | (refine AWP.drawH_k (id := 19) 0 [(.same, []), (.same, []), (.same, []), (.same, []), (.same, []), (.same, []), (.same, []), (.same, []), (.same, []), (.same, [3]), (.same, [3, 4]), (.wr 3, []), (.wr 4, []), (.same, [])] rfl (by decide +kernel) fun Q' hQ' => ?_)
    | (refine AWP.drawH0_k (id := 19) 0 [(.same, []), (.same, []), (.same, []), (.same, []), (.same, []), (.same, []), (.same, []), (.same, []), (.same, []), (.same, [3]), (.same, [3, 4]), (.wr 3, []), (.wr 4, []), (.same, [])] rfl (by decide +kernel) fun Q' hQ' => ?_)
    | (refine AWP.drawH_k (id := 32) 0 [(.same, []), (.same, [0]), (.wr 0, []), (.wr 1, [])] rfl (by decide +kernel) fun Q' hQ' => ?_)
    | (refine AWP.drawH0_k (id := 32) 0 [(.same, []), (.same, [0]), (.wr 0, []), (.wr 1, [])] rfl (by decide +kernel) fun Q' hQ' => ?_)
    | (with_reducible refine hops.step fun T hT => ?_; simp (disch := omega) only [hone, hskip, patch, hole, List.headD_cons, List.tail_cons, Prod.mk.injEq, eq_self, and_assoc, exists_and_left, List.append_cancel_left_eq, List.cons.injEq, go_sem, Nat.reduceBEq, Nat.reduceLT, Nat.reduceEqDiff, reduceIte, Nat.reduceAdd, Nat.reduceMul, Nat.reduceSub, Nat.reduceLeDiff, Int.reduceToNat, Int.reducePow, Int.reduceLT, Int.reduceEq, Int.reduceNeg, Nat.reducePow, List.reduceReplicate, Int.reduceLE, hc, hg, h30, hfu, hgl, hgl2, eq_self, Int.lt_irrefl])
    | (with_reducible refine hops.nil ?_)
    | (with_reducible refine hT _ _ ?_; clear hT T)
    | (refine AWP.region_k fun Q' hQ' => ?_)
    | (refine AWP.drawT_k rfl (by decide +kernel) fun Q' hQ' => ?_; simp only [List.length_cons, List.length_nil, Nat.reduceAdd, Nat.reduceSub, List.take_succ_cons, List.take_zero, List.drop_succ_cons, List.drop_zero])
    | (refine AWP.draw_k rfl (by kernel_rfl) fun Q' hQ' => ?_)
    | (with_reducible refine aops.step fun T hT => ?_; simp (disch := omega) only [go_sem, Nat.reduceBEq, Nat.reduceLT, Nat.reduceEqDiff, reduceIte, Nat.reduceAdd, Nat.reduceMul, Nat.reduceSub, Nat.reduceLeDiff, Int.reduceToNat, Int.reducePow, Int.reduceLT, Int.reduceEq, Int.reduceNeg, Nat.reducePow, List.reduceReplicate, Int.reduceLE, hc, hg, h30, hfu, hgl, hgl2, eq_self, Int.lt_irrefl])
    | (with_reducible refine qops.step fun T hT => ?_; simp (disch := omega) only [go_sem, Nat.reduceBEq, Nat.reduceLT, Nat.reduceEqDiff, reduceIte, Nat.reduceAdd, Nat.reduceMul, Nat.reduceSub, Nat.reduceLeDiff, Int.reduceToNat, Int.reducePow, Int.reduceLT, Int.reduceEq, Int.reduceNeg, Nat.reducePow, List.reduceReplicate, Int.reduceLE, hc, hg, h30, hfu, hgl, hgl2, eq_self, Int.lt_irrefl])
    | (with_reducible refine aops.nil ?_)
    | (with_reducible refine qops.nil ?_)
    | (with_reducible refine hT _ ?_; clear hT T)
    | (refine AWP.skip ?_; try simp only [AExit.then, AExit.inBlock, reduceIte, Nat.reduceEqDiff])
    | (refine AWP.exit ?_; try simp only [AExit.then, AExit.inBlock, reduceIte, Nat.reduceEqDiff])
    | (refine AWP.ret ?_; try simp only [AExit.then, AExit.inBlock, reduceIte, Nat.reduceEqDiff])
    | (refine AWP.cond rfl (fun h => ?_) (fun h => ?_) <;> (try simp only [decide_eq_true_eq, decide_eq_false_iff_not, Bool.true_eq_false, Bool.false_eq_true] at h) <;> (try contradiction))
    | (refine hQ' _ _ ?_; clear hQ' Q'; try simp only [AExit.then, AExit.inBlock, reduceIte, Nat.reduceEqDiff])
    | (refine hQ' _ ?_; clear hQ' Q'; try simp only [AExit.then, AExit.inBlock, reduceIte, Nat.reduceEqDiff])
    | (with_reducible refine Branch.split (fun h => ?_) (fun h => ?_) <;> (try simp only [decide_eq_true_eq, decide_eq_false_iff_not, Bool.not_true, Bool.not_false, Bool.true_eq_false, Bool.false_eq_true] at h) <;> (try contradiction) <;> (simp (disch := omega) only [go_sem, Nat.reduceBEq, Nat.reduceLT, Nat.reduceEqDiff, reduceIte, Nat.reduceAdd, Nat.reduceMul, Nat.reduceSub, Nat.reduceLeDiff, Int.reduceToNat, Int.reducePow, Int.reduceLT, Int.reduceEq, Int.reduceNeg, Nat.reducePow, List.reduceReplicate, Int.reduceLE, h, hc, hg, h30, hfu, hgl, hgl2, eq_self, Int.lt_irrefl]))
    | (with_reducible intro h; try simp only [h, go_sem, Nat.reduceBEq, Nat.reduceLT, Nat.reduceEqDiff, reduceIte, Nat.reduceAdd, Nat.reduceMul, Nat.reduceSub, Nat.reduceLeDiff, Int.reduceToNat, Int.reducePow, Int.reduceLT, Int.reduceEq, Int.reduceNeg, Nat.reducePow, List.reduceReplicate, Int.reduceLE, hc, hg, h30, hfu, hgl, hgl2, eq_self, Int.lt_irrefl])
    | ((first | (with_reducible refine acall.det (harm _) ?_) | (with_reducible refine qcall.det (harm _) ?_) | (with_reducible refine acall.det (hwr _) ?_) | (with_reducible refine qcall.det (hwr _) ?_) | (with_reducible refine acall.det (hnx _) ?_) | (with_reducible refine qcall.det (hnx _) ?_) | (with_reducible refine acall.det (ha _) ?_) | (with_reducible refine qcall.det (ha _) ?_) | (with_reducible refine acall.det (hla _) ?_) | (with_reducible refine qcall.det (hla _) ?_)); try simp (disch := omega) only [go_sem, Nat.reduceBEq, Nat.reduceLT, Nat.reduceEqDiff, reduceIte, Nat.reduceAdd, Nat.reduceMul, Nat.reduceSub, Nat.reduceLeDiff, Int.reduceToNat, Int.reducePow, Int.reduceLT, Int.reduceEq, Int.reduceNeg, Nat.reducePow, List.reduceReplicate, Int.reduceLE, hc, hg, h30, hfu, hgl, hgl2, eq_self, Int.lt_irrefl])
    | ((first | (with_reducible refine hcall.det (fun _ => harm _) ?_) | (with_reducible refine hcall.det (fun _ => hwr _) ?_) | (with_reducible refine hcall.det (fun _ => hnx _) ?_) | (with_reducible refine hcall.det (fun _ => ha _) ?_) | (with_reducible refine hcall.det (fun _ => hla _) ?_)); try simp (disch := omega) only [go_sem, Nat.reduceBEq, Nat.reduceLT, Nat.reduceEqDiff, reduceIte, Nat.reduceAdd, Nat.reduceMul, Nat.reduceSub, Nat.reduceLeDiff, Int.reduceToNat, Int.reducePow, Int.reduceLT, Int.reduceEq, Int.reduceNeg, Nat.reducePow, List.reduceReplicate, Int.reduceLE, hc, hg, h30, hfu, hgl, hgl2, eq_self, Int.lt_irrefl]))
  refine ⟨⟨(i + 1, s', ⟨q + 1, g + 1, note⟩), by dsimp only; omega, hG, by dsimp only; omega, by dsimp only; omega⟩, ?_, by dsimp only; omega⟩
  dsimp only [nvS]
  refine Coe.cutN (M := [_, _]) ?_ (lt_stN _ _ _ _ _ (by simp)) (lt_bx _ _ _ _ _ _ _)
  simp (disch := omega) only [Keeps, List.mem_cons, List.not_mem_nil, or_false, forall_eq_or_imp, forall_eq, Int.natCast_add, Int.natCast_one, go_sem, Nat.reduceBEq, Nat.reduceLT, Nat.reduceEqDiff, reduceIte, Nat.reduceAdd, Nat.reduceMul, Nat.reduceSub, Nat.reduceLeDiff, Int.reduceToNat, Int.reducePow, Int.reduceLT, Int.reduceEq, Int.reduceNeg, Nat.reducePow, List.reduceReplicate, Int.reduceLE]

set_option maxHeartbeats 8000000 in
theorem nv_ffok (l : List Tn) (i : Nat) (s : List (List UInt8)) (q g : Int) (no : List UInt8) (hl100 : ¬ (100 : Int) < (l.length : Int)) (hi : i ≤ l.length) (hgood : Good s ⟨q, g, no⟩) (hq : q ≤ (i : Int) + 1) (hgg : g ≤ (i : Int) + 1) (hc : (i : Int) < (l.length : Int))
    (fu : Int) (note : List UInt8) (hg : l[i]? = some ⟨false, fu, note⟩) (hf0 : 0 ≤ fu) (hf1 : fu ≤ 255) (hnl : note.length ≤ 9223372036854775807) (h30 : ¬ (30 : Int) < (note.length : Int)) (hfu : fu < 255)
    (s' : List (List UInt8)) (f' : Int) (e : jput ⟨s, fu, false⟩ ⟨q + 1, g, note⟩ = (⟨s', f', false⟩, ⟨q + 1, g, note⟩, 0)) (hf' : -1 ≤ f') (hG : Good s' ⟨q + 1, g, note⟩)
    (base : Nat) (w : World) (H : List Box) (β : Pl) (hI : Inv base w H β) (Q : AExit → ASt → Prop) (body : Code) (hbody : (Try.f7.body).bind firstLoop = some body) :
    AWP Try.prog ⟨base, 161, w, H, β, hI⟩ body (AExit.then (fun σ' => ∃ i' : NvI l, Coe ⟨base, 161, w, H, β, hI⟩ σ' (nvS l H i') ∧ l.length - i'.1.1 < l.length - i) Q) (nvS l H ⟨(i, s, ⟨q, g, no⟩), hi, hgood, hq, hgg⟩) := by
  have hm := jmay_spec hgood.may
  dsimp only at hm
  have hy1 : jmay ⟨q + 1, g, note⟩ = true := by simp only [jmay, decide_eq_true_eq]; exact ⟨by omega, by omega, by omega, by omega, by omega⟩
  have hy2 : jmay ⟨q + 1, g + 1, note⟩ = true := by simp only [jmay, decide_eq_true_eq]; exact ⟨by omega, by omega, by omega, by omega, by omega⟩
  have hlen := hgood.len
  have hwr := fun H => write_spec ⟨s, fu, false⟩ g note (by dsimp only; omega) (by dsimp only; omega) hgood.a64 hnl H
  have harm := fun H => arm_spec s (-1) fu (by omega) hgood.a64 (by omega) (by omega) H
  rw [hgood.write (f := fu) (by omega) (g := g) (n := note) (by dsimp only; omega) hy1] at hwr
  have hgl : ¬ g = g + 1 := by omega
  have hgl2 : ¬ g + 1 < g := by omega
  rw [e] at hwr
  obtain ⟨ha, hla, hwk⟩ := nv_fin s' _ hG
  have ha := ha f' hf'
  have hwr : ∀ H, ASpec Try.prog 26 [.agg [.lst 64 (secG s), vi fu, vb false], vi g, vs note] H (Gives (.tup [.agg [.lst 64 (secG s'), vi f', vb false], .agg [vi (q + 1), vi (g), vs note], vi 0]) H) := hwr
  dsimp only at hla
  dsimp only [firstLoop, Option.bind, Try.f7] at hbody
  injection hbody with hbody
  subst hbody
  dsimp only [nvS]
  repeat' (first
    | (refine AWP.seq ?_)
    | (refine AWP.block ?_)
    | (refine AWP.drawH_k (id := 15) 0 [(.same, []), (.same, []), (.same, []), (.same, []), (.same, []), (.same, []), (.same, []), (.same, []), (.same, []), (.same, []), (.same, [0]), (.wr 0, [])] rfl (by decide +kernel) fun Q' hQ' => ?_)
    | (refine AWP.drawH0_k (id := 15) 0 [(.same, []), (.same, []), (.same, []), (.same, []), (.same, []), (.same, []), (.same, []), (.same, []), (.same, []), (.same, []), (.same, [0]), (.wr 0, [])] rfl (by decide +kernel) fun Q' hQ' => ?_)
    | (refine AWP.drawH_k (id := 17) 2 [(.same, [3, 4]), (.same, [3, 4]), (.same, [3, 4]), (.same, [3, 4]), (.same, [3, 4]), (.same, [3, 4]), (.same, [3, 4]), (.same, [3, 4]), (.same, [3, 4]), (.same, [3, 4]), (.same, [3, 4]), (.same, [3, 4]), (.same, [3, 4]), (.new 3, [4]), (.new 4, [3]), (.wr 3, []), (.wr 4, []), (.same, [])] rfl (by decide +kernel) fun Q' hQ' => ?_)
    | (refine AWP.drawH0_k (id := 17) 2 [(.same, [3, 4]), (.same, [3, 4]), (.same, [3, 4]), (.same, [3, 4]), (.same, [3, 4]), (.same, [3, 4]), (.same, [3, 4]), (.same, [3, 4]), (.same, [3, 4]), (.same, [3, 4]), (.same, [3, 4]), (.same, [3, 4]), (.same, [3, 4]), (.new 3, [4]), (.new 4, [3]), (.wr 3, []), (.wr 4, []), (.same, [])] rfl (by decide +kernel) fun Q' hQ' => ?_)
    | (refine AWP.drawH_k (id := 19) 0 [(.same, []), (.same, []), (.same, []), (.same, []), (.same, []), (.same, []), (.same, []), (.same, []), (.same, []), (.same, [3]), (.same, [3, 4]), (.wr 3, []), (.wr 4, []), (.same, [])] rfl (by decide +kernel) fun Q' hQ' => ?_)
    | (refine AWP.drawH0_k (id := 19) 0 [(.same, []), (.same, []), (.same, []), (.same, []), (.same, []), (.same, []), (.same, []), (.same, []), (.same, []), (.same, [3]), (.same, [3, 4]), (.wr 3, []), (.wr 4, []), (.same, [])] rfl (by decide +kernel) fun Q' hQ' => ?_)
    | (refine AWP.drawH_k (id := 32) 0 [(.same, []), (.same, [0]), (.wr 0, []), (.wr 1, [])] rfl (by decide +kernel) fun Q' hQ' => ?_)
    | (refine AWP.drawH0_k (id := 32) 0 [(.same, []), (.same, [0]), (.wr 0, []), (.wr 1, [])] rfl (by decide +kernel) fun Q' hQ' => ?_)
    | (with_reducible refine hops.step fun T hT => ?_; simp (disch := omega) only [hone, hskip, patch, hole, List.headD_cons, List.tail_cons, Prod.mk.injEq, eq_self, and_assoc, exists_and_left, List.append_cancel_left_eq, List.cons.injEq, go_sem, Nat.reduceBEq, Nat.reduceLT, Nat.reduceEqDiff, reduceIte, Nat.reduceAdd, Nat.reduceMul, Nat.reduceSub, Nat.reduceLeDiff, Int.reduceToNat, Int.reducePow, Int.reduceLT, Int.reduceEq, Int.reduceNeg, Nat.reducePow, List.reduceReplicate, Int.reduceLE, hc, hg, h30, hfu, hgl, hgl2, eq_self, Int.lt_irrefl])
    | (with_reducible refine hops.nil ?_)
    | (with_reducible refine hT _ _ ?_; clear hT T)
    | (refine AWP.region_k fun Q' hQ' => ?_)
    | (refine AWP.drawT_k rfl (by decide +kernel) fun Q' hQ' => ?_; simp only [List.length_cons, List.length_nil, Nat.reduceAdd, Nat.reduceSub, List.take_succ_cons, List.take_zero, List.drop_succ_cons, List.drop_zero])
    | (refine AWP.draw_k rfl (by kernel_rfl) fun Q' hQ' => ?_)
    | (with_reducible refine aops.step fun T hT => ?_; simp (disch := omega) only [go_sem, Nat.reduceBEq, Nat.reduceLT, Nat.reduceEqDiff, reduceIte, Nat.reduceAdd, Nat.reduceMul, Nat.reduceSub, Nat.reduceLeDiff, Int.reduceToNat, Int.reducePow, Int.reduceLT, Int.reduceEq, Int.reduceNeg, Nat.reducePow, List.reduceReplicate, Int.reduceLE, hc, hg, h30, hfu, hgl, hgl2, eq_self, Int.lt_irrefl])
    | (with_reducible refine qops.step fun T hT => ?_; simp (disch := omega) only [go_sem, Nat.reduceBEq, Nat.reduceLT, Nat.reduceEqDiff, reduceIte, Nat.reduceAdd, Nat.reduceMul, Nat.reduceSub, Nat.reduceLeDiff, Int.reduceToNat, Int.reducePow, Int.reduceLT, Int.reduceEq, Int.reduceNeg, Nat.reducePow, List.reduceReplicate, Int.reduceLE, hc, hg, h30, hfu, hgl, hgl2, eq_self, Int.lt_irrefl])
    | (with_reducible refine aops.nil ?_)
    | (with_reducible refine qops.nil ?_)
    | (with_reducible refine hT _ ?_; clear hT T)
    | (refine AWP.skip ?_; try simp only [AExit.then, AExit.inBlock, reduceIte, Nat.reduceEqDiff])
    | (refine AWP.exit ?_; try simp only [AExit.then, AExit.inBlock, reduceIte, Nat.reduceEqDiff])
    | (refine AWP.ret ?_; try simp only [AExit.then, AExit.inBlock, reduceIte, Nat.reduceEqDiff])
    | (refine AWP.cond rfl (fun h => ?_) (fun h => ?_) <;> (try simp only [decide_eq_true_eq, decide_eq_false_iff_not, Bool.true_eq_false, Bool.false_eq_true] at h) <;> (try contradiction))
    | (refine hQ' _ _ ?_; clear hQ' Q'; try simp only [AExit.then, AExit.inBlock, reduceIte, Nat.reduceEqDiff])
    | (refine hQ' _ ?_; clear hQ' Q'; try simp only [AExit.then, AExit.inBlock, reduceIte, Nat.reduceEqDiff])
    | (with_reducible refine Branch.split (fun h => ?_) (fun h => ?_) <;> (try simp only [decide_eq_true_eq, decide_eq_false_iff_not, Bool.not_true, Bool.not_false, Bool.true_eq_false, Bool.false_eq_true] at h) <;> (try contradiction) <;> (simp (disch := omega) only [go_sem, Nat.reduceBEq, Nat.reduceLT, Nat.reduceEqDiff, reduceIte, Nat.reduceAdd, Nat.reduceMul, Nat.reduceSub, Nat.reduceLeDiff, Int.reduceToNat, Int.reducePow, Int.reduceLT, Int.reduceEq, Int.reduceNeg, Nat.reducePow, List.reduceReplicate, Int.reduceLE, h, hc, hg, h30, hfu, hgl, hgl2, eq_self, Int.lt_irrefl]))
    | (with_reducible intro h; try simp only [h, go_sem, Nat.reduceBEq, Nat.reduceLT, Nat.reduceEqDiff, reduceIte, Nat.reduceAdd, Nat.reduceMul, Nat.reduceSub, Nat.reduceLeDiff, Int.reduceToNat, Int.reducePow, Int.reduceLT, Int.reduceEq, Int.reduceNeg, Nat.reducePow, List.reduceReplicate, Int.reduceLE, hc, hg, h30, hfu, hgl, hgl2, eq_self, Int.lt_irrefl])
    | ((first | (with_reducible refine acall.det (harm _) ?_) | (with_reducible refine qcall.det (harm _) ?_) | (with_reducible refine acall.det (hwr _) ?_) | (with_reducible refine qcall.det (hwr _) ?_) | (with_reducible refine acall.det (ha _) ?_) | (with_reducible refine qcall.det (ha _) ?_) | (with_reducible refine acall.det (hla _) ?_) | (with_reducible refine qcall.det (hla _) ?_)); try simp (disch := omega) only [go_sem, Nat.reduceBEq, Nat.reduceLT, Nat.reduceEqDiff, reduceIte, Nat.reduceAdd, Nat.reduceMul, Nat.reduceSub, Nat.reduceLeDiff, Int.reduceToNat, Int.reducePow, Int.reduceLT, Int.reduceEq, Int.reduceNeg, Nat.reducePow, List.reduceReplicate, Int.reduceLE, hc, hg, h30, hfu, hgl, hgl2, eq_self, Int.lt_irrefl])
    | ((first | (with_reducible refine hcall.det (fun _ => harm _) ?_) | (with_reducible refine hcall.det (fun _ => hwr _) ?_) | (with_reducible refine hcall.det (fun _ => ha _) ?_) | (with_reducible refine hcall.det (fun _ => hla _) ?_)); try simp (disch := omega) only [go_sem, Nat.reduceBEq, Nat.reduceLT, Nat.reduceEqDiff, reduceIte, Nat.reduceAdd, Nat.reduceMul, Nat.reduceSub, Nat.reduceLeDiff, Int.reduceToNat, Int.reducePow, Int.reduceLT, Int.reduceEq, Int.reduceNeg, Nat.reducePow, List.reduceReplicate, Int.reduceLE, hc, hg, h30, hfu, hgl, hgl2, eq_self, Int.lt_irrefl]))
  refine ⟨⟨(i + 1, s', ⟨q + 1, g, note⟩), by dsimp only; omega, hG, by dsimp only; omega, by dsimp only; omega⟩, ?_, by dsimp only; omega⟩
  dsimp only [nvS]
  refine Coe.cutN (M := [_, _]) ?_ (lt_stN _ _ _ _ _ (by simp)) (lt_bx _ _ _ _ _ _ _)
  simp (disch := omega) only [Keeps, List.mem_cons, List.not_mem_nil, or_false, forall_eq_or_imp, forall_eq, Int.natCast_add, Int.natCast_one, go_sem, Nat.reduceBEq, Nat.reduceLT, Nat.reduceEqDiff, reduceIte, Nat.reduceAdd, Nat.reduceMul, Nat.reduceSub, Nat.reduceLeDiff, Int.reduceToNat, Int.reducePow, Int.reduceLT, Int.reduceEq, Int.reduceNeg, Nat.reducePow, List.reduceReplicate, Int.reduceLE]

set_option maxHeartbeats 8000000 in
theorem nv_ntok (l : List Tn) (i : Nat) (s : List (List UInt8)) (q g : Int) (no : List UInt8) (hl100 : ¬ (100 : Int) < (l.length : Int)) (hi : i ≤ l.length) (hgood : Good s ⟨q, g, no⟩) (hq : q ≤ (i : Int) + 1) (hgg : g ≤ (i : Int) + 1) (hc : (i : Int) < (l.length : Int))
    (fu : Int) (note : List UInt8) (hg : l[i]? = some ⟨true, fu, note⟩) (hf0 : 0 ≤ fu) (hf1 : fu ≤ 255) (hnl : note.length ≤ 9223372036854775807) (h30 : ¬ (30 : Int) < (note.length : Int)) (hfu : ¬ fu < 255)
    (s' : List (List UInt8)) (f' : Int) (e : jput ⟨s, (-1), false⟩ ⟨q + 1, g + 1, note⟩ = (⟨s', f', false⟩, ⟨q + 1, g + 1, note⟩, 0)) (hf' : -1 ≤ f') (hG : Good s' ⟨q + 1, g + 1, note⟩)
    (base : Nat) (w : World) (H : List Box) (β : Pl) (hI : Inv base w H β) (Q : AExit → ASt → Prop) (body : Code) (hbody : (Try.f7.body).bind firstLoop = some body) :
    AWP Try.prog ⟨base, 161, w, H, β, hI⟩ body (AExit.then (fun σ' => ∃ i' : NvI l, Coe ⟨base, 161, w, H, β, hI⟩ σ' (nvS l H i') ∧ l.length - i'.1.1 < l.length - i) Q) (nvS l H ⟨(i, s, ⟨q, g, no⟩), hi, hgood, hq, hgg⟩) := by
  have hm := jmay_spec hgood.may
  dsimp only at hm
  have hy1 : jmay ⟨q + 1, g, note⟩ = true := by simp only [jmay, decide_eq_true_eq]; exact ⟨by omega, by omega, by omega, by omega, by omega⟩
  have hy2 : jmay ⟨q + 1, g + 1, note⟩ = true := by simp only [jmay, decide_eq_true_eq]; exact ⟨by omega, by omega, by omega, by omega, by omega⟩
  have hlen := hgood.len
  have hwr := fun H => write_spec ⟨s, (-1), false⟩ g note (by dsimp only; omega) (by dsimp only; omega) hgood.a64 hnl H
  have hnx := fun H => next_spec ⟨s, (-1), false⟩ note (by dsimp only; omega) (by dsimp only; omega) hgood.a64 hnl H
  rw [hgood.next (f := (-1)) (by omega) (n := note) hy2] at hnx
  generalize jwrite ⟨s, (-1), false⟩ g note = y at hwr
  obtain ⟨⟨s1, f1, d1⟩, ⟨q1, g1, n1⟩, e1⟩ := y
  have hwr : ∀ H, ASpec Try.prog 26 [.agg [.lst 64 (secG s), vi (-1), vb false], vi g, vs note] H (Gives (.tup [.agg [.lst 64 (secG s1), vi f1, vb d1], .agg [vi q1, vi g1, vs n1], vi e1]) H) := hwr
  have hgl : ¬ g = g + 1 := by omega
  have hgl2 : ¬ g + 1 < g := by omega
  rw [e] at hnx
  obtain ⟨ha, hla, hwk⟩ := nv_fin s' _ hG
  have ha := ha f' hf'
  have hnx : ∀ H, ASpec Try.prog 27 [.agg [.lst 64 (secG s), vi (-1), vb false], vs note] H (Gives (.tup [.agg [.lst 64 (secG s'), vi f', vb false], .agg [vi (q + 1), vi (g + 1), vs note], vi 0]) H) := hnx
  dsimp only at hla
  dsimp only [firstLoop, Option.bind, Try.f7] at hbody
  injection hbody with hbody
  subst hbody
  dsimp only [nvS]
  repeat' (first
    | (refine AWP.seq ?_)
    | (refine AWP.block ?_)
    | (refine AWP.drawH_k (id := 15) 0 [(.same, []), (.same, []), (.same, []), (.same, []), (.same, []), (.same, []), (.same, []), (.same, []), (.same, []), (.same, []), (.same, [0]), (.wr 0, [])] rfl (by decide +kernel) fun Q' hQ' => ?_)
    | (refine AWP.drawH0_k (id := 15) 0 [(.same, []), (.same, []), (.same, []), (.same, []), (.same, []), (.same, []), (.same, []), (.same, []), (.same, []), (.same, []), (.same, [0]), (.wr 0, [])] rfl (by decide +kernel) fun Q' hQ' => ?_)
    | (refine AWP.drawH_k (id := 17) 2 [(.same, [3, 4]), (.same, [3, 4]), (.same, [3, 4]), (.same, [3, 4]), (.same, [3, 4]), (.same, [3, 4]), (.same, [3, 4]), (.same, [3, 4]), (.same, [3, 4]), (.same, [3, 4]), (.same, [3, 4]), (.same, [3, 4]), (.same, [3, 4]), (.new 3, [4]), (.new 4, [3]), (.wr 3, []), (.wr 4, []), (.same, [])] rfl (by decide +kernel) fun Q' hQ' => ?_)
    | (refine AWP.drawH0_k (id := 17) 2 [(.same, [3, 4]), (.same, [3, 4]), (.same, [3, 4]), (.same, [3, 4]), (.same, [3, 4]), (.same, [3, 4]), (.same, [3, 4]), (.same, [3, 4]), (.same, [3, 4]), (.same, [3, 4]), (.same, [3, 4]), (.same, [3, 4]), (.same, [3, 4]), (.new 3, [4]), (.new 4, [3]), (.wr 3, []), (.wr 4, []), (.same, [])] rfl (by decide +kernel) fun Q' hQ' => ?_)
    | (refine AWP.drawH_k (id := 19) 0 [(.same, []), (.same, []), (.same, []), (.same, []), (.same, []), (.same, []), (.same, []), (.same, []), (.same, []), (.same, [3]), (.same, [3, 4]), (.wr 3, []), (.wr 4, []), (.same, [])] rfl (by decide +kernel) fun Q' hQ' => ?_)
    | (refine AWP.drawH0_k (id := 19) 0 [(.same, []), (.same, []), (.same, []), (.same, []), (.same, []), (.same, []), (.same, []), (.same, []), (.same, []), (.same, [3]), (.same, [3, 4]), (.wr 3, []), (.wr 4, []), (.same, [])] rfl (by decide +kernel) fun Q' hQ' => ?_)
    | (refine AWP.drawH_k (id := 32) 0 [(.same, []), (.same, [0]), (.wr 0, []), (.wr 1, [])] rfl (by decide +kernel) fun Q' hQ' => ?_)
    | (refine AWP.drawH0_k (id := 32) 0 [(.same, []), (.same, [0]), (.wr 0, []), (.wr 1, [])] rfl (by decide +kernel) fun Q' hQ' => ?_)
    | (with_reducible refine hops.step fun T hT => ?_; simp (disch := omega) only [hone, hskip, patch, hole, List.headD_cons, List.tail_cons, Prod.mk.injEq, eq_self, and_assoc, exists_and_left, List.append_cancel_left_eq, List.cons.injEq, go_sem, Nat.reduceBEq, Nat.reduceLT, Nat.reduceEqDiff, reduceIte, Nat.reduceAdd, Nat.reduceMul, Nat.reduceSub, Nat.reduceLeDiff, Int.reduceToNat, Int.reducePow, Int.reduceLT, Int.reduceEq, Int.reduceNeg, Nat.reducePow, List.reduceReplicate, Int.reduceLE, hc, hg, h30, hfu, hgl, hgl2, eq_self, Int.lt_irrefl])
    | (with_reducible refine hops.nil ?_)
    | (with_reducible refine hT _ _ ?_; clear hT T)
    | (refine AWP.region_k fun Q' hQ' => ?_)
    | (refine AWP.drawT_k rfl (by decide +kernel) fun Q' hQ' => ?_; simp only [List.length_cons, List.length_nil, Nat.reduceAdd, Nat.reduceSub, List.take_succ_cons, List.take_zero, List.drop_succ_cons, List.drop_zero])
    | (refine AWP.draw_k rfl (by kernel_rfl) fun Q' hQ' => ?_)
    | (with_reducible refine aops.step fun T hT => ?_; simp (disch := omega) only [go_sem, Nat.reduceBEq, Nat.reduceLT, Nat.reduceEqDiff, reduceIte, Nat.reduceAdd, Nat.reduceMul, Nat.reduceSub, Nat.reduceLeDiff, Int.reduceToNat, Int.reducePow, Int.reduceLT, Int.reduceEq, Int.reduceNeg, Nat.reducePow, List.reduceReplicate, Int.reduceLE, hc, hg, h30, hfu, hgl, hgl2, eq_self, Int.lt_irrefl])
    | (with_reducible refine qops.step fun T hT => ?_; simp (disch := omega) only [go_sem, Nat.reduceBEq, Nat.reduceLT, Nat.reduceEqDiff, reduceIte, Nat.reduceAdd, Nat.reduceMul, Nat.reduceSub, Nat.reduceLeDiff, Int.reduceToNat, Int.reducePow, Int.reduceLT, Int.reduceEq, Int.reduceNeg, Nat.reducePow, List.reduceReplicate, Int.reduceLE, hc, hg, h30, hfu, hgl, hgl2, eq_self, Int.lt_irrefl])
    | (with_reducible refine aops.nil ?_)
    | (with_reducible refine qops.nil ?_)
    | (with_reducible refine hT _ ?_; clear hT T)
    | (refine AWP.skip ?_; try simp only [AExit.then, AExit.inBlock, reduceIte, Nat.reduceEqDiff])
    | (refine AWP.exit ?_; try simp only [AExit.then, AExit.inBlock, reduceIte, Nat.reduceEqDiff])
    | (refine AWP.ret ?_; try simp only [AExit.then, AExit.inBlock, reduceIte, Nat.reduceEqDiff])
    | (refine AWP.cond rfl (fun h => ?_) (fun h => ?_) <;> (try simp only [decide_eq_true_eq, decide_eq_false_iff_not, Bool.true_eq_false, Bool.false_eq_true] at h) <;> (try contradiction))
    | (refine hQ' _ _ ?_; clear hQ' Q'; try simp only [AExit.then, AExit.inBlock, reduceIte, Nat.reduceEqDiff])
    | (refine hQ' _ ?_; clear hQ' Q'; try simp only [AExit.then, AExit.inBlock, reduceIte, Nat.reduceEqDiff])
    | (with_reducible refine Branch.split (fun h => ?_) (fun h => ?_) <;> (try simp only [decide_eq_true_eq, decide_eq_false_iff_not, Bool.not_true, Bool.not_false, Bool.true_eq_false, Bool.false_eq_true] at h) <;> (try contradiction) <;> (simp (disch := omega) only [go_sem, Nat.reduceBEq, Nat.reduceLT, Nat.reduceEqDiff, reduceIte, Nat.reduceAdd, Nat.reduceMul, Nat.reduceSub, Nat.reduceLeDiff, Int.reduceToNat, Int.reducePow, Int.reduceLT, Int.reduceEq, Int.reduceNeg, Nat.reducePow, List.reduceReplicate, Int.reduceLE, h, hc, hg, h30, hfu, hgl, hgl2, eq_self, Int.lt_irrefl]))
    | (with_reducible intro h; try simp only [h, go_sem, Nat.reduceBEq, Nat.reduceLT, Nat.reduceEqDiff, reduceIte, Nat.reduceAdd, Nat.reduceMul, Nat.reduceSub, Nat.reduceLeDiff, Int.reduceToNat, Int.reducePow, Int.reduceLT, Int.reduceEq, Int.reduceNeg, Nat.reducePow, List.reduceReplicate, Int.reduceLE, hc, hg, h30, hfu, hgl, hgl2, eq_self, Int.lt_irrefl])
    | ((first | (with_reducible refine acall.det (hwr _) ?_) | (with_reducible refine qcall.det (hwr _) ?_) | (with_reducible refine acall.det (hnx _) ?_) | (with_reducible refine qcall.det (hnx _) ?_) | (with_reducible refine acall.det (ha _) ?_) | (with_reducible refine qcall.det (ha _) ?_) | (with_reducible refine acall.det (hla _) ?_) | (with_reducible refine qcall.det (hla _) ?_)); try simp (disch := omega) only [go_sem, Nat.reduceBEq, Nat.reduceLT, Nat.reduceEqDiff, reduceIte, Nat.reduceAdd, Nat.reduceMul, Nat.reduceSub, Nat.reduceLeDiff, Int.reduceToNat, Int.reducePow, Int.reduceLT, Int.reduceEq, Int.reduceNeg, Nat.reducePow, List.reduceReplicate, Int.reduceLE, hc, hg, h30, hfu, hgl, hgl2, eq_self, Int.lt_irrefl])
    | ((first | (with_reducible refine hcall.det (fun _ => hwr _) ?_) | (with_reducible refine hcall.det (fun _ => hnx _) ?_) | (with_reducible refine hcall.det (fun _ => ha _) ?_) | (with_reducible refine hcall.det (fun _ => hla _) ?_)); try simp (disch := omega) only [go_sem, Nat.reduceBEq, Nat.reduceLT, Nat.reduceEqDiff, reduceIte, Nat.reduceAdd, Nat.reduceMul, Nat.reduceSub, Nat.reduceLeDiff, Int.reduceToNat, Int.reducePow, Int.reduceLT, Int.reduceEq, Int.reduceNeg, Nat.reducePow, List.reduceReplicate, Int.reduceLE, hc, hg, h30, hfu, hgl, hgl2, eq_self, Int.lt_irrefl]))
  refine ⟨⟨(i + 1, s', ⟨q + 1, g + 1, note⟩), by dsimp only; omega, hG, by dsimp only; omega, by dsimp only; omega⟩, ?_, by dsimp only; omega⟩
  dsimp only [nvS]
  refine Coe.cutN (M := [_, _]) ?_ (lt_stN _ _ _ _ _ (by simp)) (lt_bx _ _ _ _ _ _ _)
  simp (disch := omega) only [Keeps, List.mem_cons, List.not_mem_nil, or_false, forall_eq_or_imp, forall_eq, Int.natCast_add, Int.natCast_one, go_sem, Nat.reduceBEq, Nat.reduceLT, Nat.reduceEqDiff, reduceIte, Nat.reduceAdd, Nat.reduceMul, Nat.reduceSub, Nat.reduceLeDiff, Int.reduceToNat, Int.reducePow, Int.reduceLT, Int.reduceEq, Int.reduceNeg, Nat.reducePow, List.reduceReplicate, Int.reduceLE]

end Go.Proofs.Ytkkhbmpcpilmfaa.VL

/- Library: places of a byte in a string, how often it stands there, whether it does; a string without its last byte. -/
import Derived.Test.YtkkhbmpcpilmfaaDoorLabM
import Derived.Lib.Bytealg
-- STEPWISE
set_option linter.unusedVariables false
set_option linter.unusedSimpArgs false
set_option maxRecDepth 100000
namespace Go.Proofs.YtkkhbmpcpilmfaaDoor.VL
open Go Go.RowKit Go.Lib

theorem aspec_extern {P : Program} {f : FuncId} {fn : Func} {e : Array Value → Sem Value} (hf : P.funcs[f]? = some fn) (h1 : (fn.name == "runtime.NumGoroutine") = false) (h2 : fn.body.isNone = true) (h3 : Extern.findNext fn = none) (he : Extern.find fn = some e) {args : List AV} {H : List Box} {K : Out → List Box → Prop}
    (h : ∀ base w β vs, Inv base w H β → Reps w H β args vs → ∃ v w' r H' β', (e vs).run P w = .ok v w' ∧ K (.ret r) H' ∧ Rep w' H' β' r v ∧ Inv base w' H' β' ∧ Stp base w H β w' H' β') : ASpec P f args H K := fun base w β vs hI hr => by
  obtain ⟨v, w', r, H', β', g1, g2, g3, g4, g5⟩ := h base w β vs hI hr
  exact .inr ⟨v, w', by rw [run_callFunc_extern hf h1 h2 h3 he, g1]; rfl, .ret r, H', β', g2, g3, g4, g5⟩
theorem reps_v2 {w : World} {H : List Box} {β : Pl} {x y : Value} {vs : Array Value} (h : Reps w H β [.v x, .v y] vs) : vs = #[x, y] := by
  obtain ⟨h1, h2⟩ := h
  match vs, h1 with
  | ⟨[a, b]⟩, _ =>
    have e1 := h2 0 _ a rfl rfl
    have e2 := h2 1 _ b rfl rfl
    cases e1
    cases e2
    rfl

theorem countString_spec (s : List UInt8) (c : UInt8) (H : List Box) : ASpec Tryd.prog 55 [vs s, .v (.int .u8 c.toNat)] H (Gives (vi (s.count c)) H) :=
  aspec_extern Tryd.func55 (by kernel_rfl) (by kernel_rfl) (by kernel_rfl) (e := Extern.BytealgCount.count) (by kernel_rfl) fun base w β vs hI hr => by
    obtain rfl := reps_v2 hr
    refine ⟨_, w, _, H, β, run_countString _ _ w, ⟨rfl, rfl⟩, ?_, hI, Stp.refl _ _ _⟩
    have : ((c.toNat : Int).toNat.toUInt8) = c := by simp
    rw [this]
    exact .v _
theorem indexByteString_spec (s : List UInt8) (c : UInt8) (H : List Box) : ASpec Tryd.prog 62 [vs s, .v (.int .u8 c.toNat)] H (Gives (vi (indexByte s c)) H) :=
  aspec_extern Tryd.func62 (by kernel_rfl) (by kernel_rfl) (by kernel_rfl) (e := Extern.BytealgIndexByte.indexByte) (by kernel_rfl) fun base w β vs hI hr => by
    obtain rfl := reps_v2 hr
    refine ⟨_, w, _, H, β, run_indexByteString _ _ w, ⟨rfl, rfl⟩, ?_, hI, Stp.refl _ _ _⟩
    have : ((c.toNat : Int).toNat.toUInt8) = c := by simp
    rw [this]
    exact .v _

theorem indexByte_spec (s : List UInt8) (c : UInt8) (H : List Box) : ASpec Tryd.prog 56 [vs s, .v (.int .u8 c.toNat)] H (Gives (vi (indexByte s c)) H) := by
  have hc := fun H => indexByteString_spec s c H
  intro base
  refine acall_body Tryd.func56 rfl (fun a w => Tryd.call56 a w) Tryd.ntmps56 Tryd.results56 (by simp) ?_
  intro w β hI
  simp only [number]
  repeat' (first
    | (refine AWP.seq ?_)
    | (refine AWP.block ?_)
    | (refine AWP.region_k fun Q' hQ' => ?_)
    | (refine AWP.draw_k rfl (by kernel_rfl) fun Q' hQ' => ?_)
    | (with_reducible refine aops.step fun T hT => ?_; simp (disch := omega) only [go_sem, Nat.reduceBEq, Nat.reduceLT, Nat.reduceEqDiff, reduceIte, Nat.reduceAdd, Nat.reduceMul, Nat.reduceSub, Nat.reduceLeDiff, Int.reduceToNat, Int.reducePow, Int.reduceLT, Int.reduceEq, Int.reduceNeg, Nat.reducePow, List.reduceReplicate, Int.reduceLE])
    | (with_reducible refine qops.step fun T hT => ?_; simp (disch := omega) only [go_sem, Nat.reduceBEq, Nat.reduceLT, Nat.reduceEqDiff, reduceIte, Nat.reduceAdd, Nat.reduceMul, Nat.reduceSub, Nat.reduceLeDiff, Int.reduceToNat, Int.reducePow, Int.reduceLT, Int.reduceEq, Int.reduceNeg, Nat.reducePow, List.reduceReplicate, Int.reduceLE])
    | (with_reducible refine aops.nil ?_)
    | (with_reducible refine qops.nil ?_)
    | (with_reducible refine hT _ ?_; clear hT T)
    | (refine AWP.skip ?_; try simp only [AExit.then, AExit.inBlock, reduceIte, Nat.reduceEqDiff])
    | (refine AWP.exit ?_; try simp only [AExit.then, AExit.inBlock, reduceIte, Nat.reduceEqDiff])
    | (refine AWP.ret ?_; try simp only [AExit.then, AExit.inBlock, reduceIte, Nat.reduceEqDiff])
    | (refine AWP.cond rfl (fun h => ?_) (fun h => ?_) <;> (try simp only [decide_eq_true_eq, decide_eq_false_iff_not, Bool.true_eq_false, Bool.false_eq_true] at h) <;> (try contradiction))
    | (refine hQ' _ _ ?_; clear hQ' Q'; try simp only [AExit.then, AExit.inBlock, reduceIte, Nat.reduceEqDiff])
    | (refine hQ' _ ?_; clear hQ' Q'; try simp only [AExit.then, AExit.inBlock, reduceIte, Nat.reduceEqDiff])
    | (with_reducible refine Branch.split (fun h => ?_) (fun h => ?_) <;> (try simp only [decide_eq_true_eq, decide_eq_false_iff_not, Bool.not_true, Bool.not_false, Bool.true_eq_false, Bool.false_eq_true] at h) <;> (try contradiction) <;> (simp (disch := omega) only [go_sem, Nat.reduceBEq, Nat.reduceLT, Nat.reduceEqDiff, reduceIte, Nat.reduceAdd, Nat.reduceMul, Nat.reduceSub, Nat.reduceLeDiff, Int.reduceToNat, Int.reducePow, Int.reduceLT, Int.reduceEq, Int.reduceNeg, Nat.reducePow, List.reduceReplicate, Int.reduceLE, h]))
    | (with_reducible intro h; try simp only [h, go_sem, Nat.reduceBEq, Nat.reduceLT, Nat.reduceEqDiff, reduceIte, Nat.reduceAdd, Nat.reduceMul, Nat.reduceSub, Nat.reduceLeDiff, Int.reduceToNat, Int.reducePow, Int.reduceLT, Int.reduceEq, Int.reduceNeg, Nat.reducePow, List.reduceReplicate, Int.reduceLE])
    | ((first | (with_reducible refine acall.det (hc _) ?_) | (with_reducible refine qcall.det (hc _) ?_)); try simp (disch := omega) only [go_sem, Nat.reduceBEq, Nat.reduceLT, Nat.reduceEqDiff, reduceIte, Nat.reduceAdd, Nat.reduceMul, Nat.reduceSub, Nat.reduceLeDiff, Int.reduceToNat, Int.reducePow, Int.reduceLT, Int.reduceEq, Int.reduceNeg, Nat.reducePow, List.reduceReplicate, Int.reduceLE]))
  simp only [bodyQ, go_sem, Nat.reduceBEq, Nat.reduceLT, Nat.reduceEqDiff, reduceIte, Nat.reduceAdd, Nat.reduceMul, Nat.reduceSub, Nat.reduceLeDiff, Int.reduceToNat, Int.reducePow, Int.reduceLT, Int.reduceEq, Int.reduceNeg, Nat.reducePow, List.reduceReplicate, Int.reduceLE]
  exact Fin.same ⟨rfl, rfl⟩
set_option maxHeartbeats 2000000 in
theorem strliteIndex_spec (s : List UInt8) (c : UInt8) (hs : s.length ≤ 9223372036854775807) (H : List Box) : ASpec Tryd.prog 50 [vs s, vs [c]] H (Gives (vi (indexByte s c)) H) := by
  have hc := fun H => indexByte_spec s c H
  by_cases hsc : ([c] : List UInt8) = s
  · subst hsc
    have e : indexByte [c] c = 0 := by simp [indexByte]
    rw [e] at hc ⊢
    intro base
    refine acall_body Tryd.func50 rfl (fun a w => Tryd.call50 a w) Tryd.ntmps50 Tryd.results50 (by simp) ?_
    intro w β hI
    simp only [number]
    repeat' (first
      | (refine AWP.seq ?_)
      | (refine AWP.block ?_)
      | (refine AWP.region_k fun Q' hQ' => ?_)
      | (refine AWP.draw_k rfl (by kernel_rfl) fun Q' hQ' => ?_)
      | (with_reducible refine aops.step fun T hT => ?_; simp (disch := omega) only [go_sem, Nat.reduceBEq, Nat.reduceLT, Nat.reduceEqDiff, reduceIte, Nat.reduceAdd, Nat.reduceMul, Nat.reduceSub, Nat.reduceLeDiff, Int.reduceToNat, Int.reducePow, Int.reduceLT, Int.reduceEq, Int.reduceNeg, Nat.reducePow, List.reduceReplicate, Int.reduceLE, e])
      | (with_reducible refine qops.step fun T hT => ?_; simp (disch := omega) only [go_sem, Nat.reduceBEq, Nat.reduceLT, Nat.reduceEqDiff, reduceIte, Nat.reduceAdd, Nat.reduceMul, Nat.reduceSub, Nat.reduceLeDiff, Int.reduceToNat, Int.reducePow, Int.reduceLT, Int.reduceEq, Int.reduceNeg, Nat.reducePow, List.reduceReplicate, Int.reduceLE, e])
      | (with_reducible refine aops.nil ?_)
      | (with_reducible refine qops.nil ?_)
      | (with_reducible refine hT _ ?_; clear hT T)
      | (refine AWP.skip ?_; try simp only [AExit.then, AExit.inBlock, reduceIte, Nat.reduceEqDiff])
      | (refine AWP.exit ?_; try simp only [AExit.then, AExit.inBlock, reduceIte, Nat.reduceEqDiff])
      | (refine AWP.ret ?_; try simp only [AExit.then, AExit.inBlock, reduceIte, Nat.reduceEqDiff])
      | (refine AWP.cond rfl (fun h => ?_) (fun h => ?_) <;> (try simp only [decide_eq_true_eq, decide_eq_false_iff_not, Bool.true_eq_false, Bool.false_eq_true] at h) <;> (try contradiction))
      | (refine hQ' _ _ ?_; clear hQ' Q'; try simp only [AExit.then, AExit.inBlock, reduceIte, Nat.reduceEqDiff])
      | (refine hQ' _ ?_; clear hQ' Q'; try simp only [AExit.then, AExit.inBlock, reduceIte, Nat.reduceEqDiff])
      | (with_reducible refine Branch.split (fun h => ?_) (fun h => ?_) <;> (try simp only [decide_eq_true_eq, decide_eq_false_iff_not, Bool.not_true, Bool.not_false, Bool.true_eq_false, Bool.false_eq_true] at h) <;> (try contradiction) <;> (simp (disch := omega) only [go_sem, Nat.reduceBEq, Nat.reduceLT, Nat.reduceEqDiff, reduceIte, Nat.reduceAdd, Nat.reduceMul, Nat.reduceSub, Nat.reduceLeDiff, Int.reduceToNat, Int.reducePow, Int.reduceLT, Int.reduceEq, Int.reduceNeg, Nat.reducePow, List.reduceReplicate, Int.reduceLE, h, e]))
      | (with_reducible intro h; try simp only [h, go_sem, Nat.reduceBEq, Nat.reduceLT, Nat.reduceEqDiff, reduceIte, Nat.reduceAdd, Nat.reduceMul, Nat.reduceSub, Nat.reduceLeDiff, Int.reduceToNat, Int.reducePow, Int.reduceLT, Int.reduceEq, Int.reduceNeg, Nat.reducePow, List.reduceReplicate, Int.reduceLE, e])
      | ((first | (with_reducible refine acall.det (hc _) ?_) | (with_reducible refine qcall.det (hc _) ?_)); try simp (disch := omega) only [go_sem, Nat.reduceBEq, Nat.reduceLT, Nat.reduceEqDiff, reduceIte, Nat.reduceAdd, Nat.reduceMul, Nat.reduceSub, Nat.reduceLeDiff, Int.reduceToNat, Int.reducePow, Int.reduceLT, Int.reduceEq, Int.reduceNeg, Nat.reducePow, List.reduceReplicate, Int.reduceLE, e]))
    simp only [bodyQ, go_sem, Nat.reduceBEq, Nat.reduceLT, Nat.reduceEqDiff, reduceIte, Nat.reduceAdd, Nat.reduceMul, Nat.reduceSub, Nat.reduceLeDiff, Int.reduceToNat, Int.reducePow, Int.reduceLT, Int.reduceEq, Int.reduceNeg, Nat.reducePow, List.reduceReplicate, Int.reduceLE]
    exact Fin.same ⟨rfl, rfl⟩
  · intro base
    refine acall_body Tryd.func50 rfl (fun a w => Tryd.call50 a w) Tryd.ntmps50 Tryd.results50 (by simp) ?_
    intro w β hI
    simp only [number]
    repeat' (first
      | (refine AWP.seq ?_)
      | (refine AWP.block ?_)
      | (refine AWP.region_k fun Q' hQ' => ?_)
      | (refine AWP.draw_k rfl (by kernel_rfl) fun Q' hQ' => ?_)
      | (with_reducible refine aops.step fun T hT => ?_; simp (disch := omega) only [go_sem, Nat.reduceBEq, Nat.reduceLT, Nat.reduceEqDiff, reduceIte, Nat.reduceAdd, Nat.reduceMul, Nat.reduceSub, Nat.reduceLeDiff, Int.reduceToNat, Int.reducePow, Int.reduceLT, Int.reduceEq, Int.reduceNeg, Nat.reducePow, List.reduceReplicate, Int.reduceLE, hsc])
      | (with_reducible refine qops.step fun T hT => ?_; simp (disch := omega) only [go_sem, Nat.reduceBEq, Nat.reduceLT, Nat.reduceEqDiff, reduceIte, Nat.reduceAdd, Nat.reduceMul, Nat.reduceSub, Nat.reduceLeDiff, Int.reduceToNat, Int.reducePow, Int.reduceLT, Int.reduceEq, Int.reduceNeg, Nat.reducePow, List.reduceReplicate, Int.reduceLE, hsc])
      | (with_reducible refine aops.nil ?_)
      | (with_reducible refine qops.nil ?_)
      | (with_reducible refine hT _ ?_; clear hT T)
      | (refine AWP.skip ?_; try simp only [AExit.then, AExit.inBlock, reduceIte, Nat.reduceEqDiff])
      | (refine AWP.exit ?_; try simp only [AExit.then, AExit.inBlock, reduceIte, Nat.reduceEqDiff])
      | (refine AWP.ret ?_; try simp only [AExit.then, AExit.inBlock, reduceIte, Nat.reduceEqDiff])
      | (refine AWP.cond rfl (fun h => ?_) (fun h => ?_) <;> (try simp only [decide_eq_true_eq, decide_eq_false_iff_not, Bool.true_eq_false, Bool.false_eq_true] at h) <;> (try contradiction))
      | (refine hQ' _ _ ?_; clear hQ' Q'; try simp only [AExit.then, AExit.inBlock, reduceIte, Nat.reduceEqDiff])
      | (refine hQ' _ ?_; clear hQ' Q'; try simp only [AExit.then, AExit.inBlock, reduceIte, Nat.reduceEqDiff])
      | (with_reducible refine Branch.split (fun h => ?_) (fun h => ?_) <;> (try simp only [decide_eq_true_eq, decide_eq_false_iff_not, Bool.not_true, Bool.not_false, Bool.true_eq_false, Bool.false_eq_true] at h) <;> (try contradiction) <;> (simp (disch := omega) only [go_sem, Nat.reduceBEq, Nat.reduceLT, Nat.reduceEqDiff, reduceIte, Nat.reduceAdd, Nat.reduceMul, Nat.reduceSub, Nat.reduceLeDiff, Int.reduceToNat, Int.reducePow, Int.reduceLT, Int.reduceEq, Int.reduceNeg, Nat.reducePow, List.reduceReplicate, Int.reduceLE, h, hsc]))
      | (with_reducible intro h; try simp only [h, go_sem, Nat.reduceBEq, Nat.reduceLT, Nat.reduceEqDiff, reduceIte, Nat.reduceAdd, Nat.reduceMul, Nat.reduceSub, Nat.reduceLeDiff, Int.reduceToNat, Int.reducePow, Int.reduceLT, Int.reduceEq, Int.reduceNeg, Nat.reducePow, List.reduceReplicate, Int.reduceLE, hsc])
      | ((first | (with_reducible refine acall.det (hc _) ?_) | (with_reducible refine qcall.det (hc _) ?_)); try simp (disch := omega) only [go_sem, Nat.reduceBEq, Nat.reduceLT, Nat.reduceEqDiff, reduceIte, Nat.reduceAdd, Nat.reduceMul, Nat.reduceSub, Nat.reduceLeDiff, Int.reduceToNat, Int.reducePow, Int.reduceLT, Int.reduceEq, Int.reduceNeg, Nat.reducePow, List.reduceReplicate, Int.reduceLE, hsc]))
    simp only [bodyQ, go_sem, Nat.reduceBEq, Nat.reduceLT, Nat.reduceEqDiff, reduceIte, Nat.reduceAdd, Nat.reduceMul, Nat.reduceSub, Nat.reduceLeDiff, Int.reduceToNat, Int.reducePow, Int.reduceLT, Int.reduceEq, Int.reduceNeg, Nat.reducePow, List.reduceReplicate, Int.reduceLE]
    exact Fin.same ⟨rfl, rfl⟩
theorem strIndex_spec (s : List UInt8) (c : UInt8) (hs : s.length ≤ 9223372036854775807) (H : List Box) : ASpec Tryd.prog 43 [vs s, vs [c]] H (Gives (vi (indexByte s c)) H) := by
  have hc := fun H => strliteIndex_spec s c hs H
  intro base
  refine acall_body Tryd.func43 rfl (fun a w => Tryd.call43 a w) Tryd.ntmps43 Tryd.results43 (by simp) ?_
  intro w β hI
  simp only [number]
  repeat' (first
    | (refine AWP.seq ?_)
    | (refine AWP.block ?_)
    | (refine AWP.region_k fun Q' hQ' => ?_)
    | (refine AWP.draw_k rfl (by kernel_rfl) fun Q' hQ' => ?_)
    | (with_reducible refine aops.step fun T hT => ?_; simp (disch := omega) only [go_sem, Nat.reduceBEq, Nat.reduceLT, Nat.reduceEqDiff, reduceIte, Nat.reduceAdd, Nat.reduceMul, Nat.reduceSub, Nat.reduceLeDiff, Int.reduceToNat, Int.reducePow, Int.reduceLT, Int.reduceEq, Int.reduceNeg, Nat.reducePow, List.reduceReplicate, Int.reduceLE])
    | (with_reducible refine qops.step fun T hT => ?_; simp (disch := omega) only [go_sem, Nat.reduceBEq, Nat.reduceLT, Nat.reduceEqDiff, reduceIte, Nat.reduceAdd, Nat.reduceMul, Nat.reduceSub, Nat.reduceLeDiff, Int.reduceToNat, Int.reducePow, Int.reduceLT, Int.reduceEq, Int.reduceNeg, Nat.reducePow, List.reduceReplicate, Int.reduceLE])
    | (with_reducible refine aops.nil ?_)
    | (with_reducible refine qops.nil ?_)
    | (with_reducible refine hT _ ?_; clear hT T)
    | (refine AWP.skip ?_; try simp only [AExit.then, AExit.inBlock, reduceIte, Nat.reduceEqDiff])
    | (refine AWP.exit ?_; try simp only [AExit.then, AExit.inBlock, reduceIte, Nat.reduceEqDiff])
    | (refine AWP.ret ?_; try simp only [AExit.then, AExit.inBlock, reduceIte, Nat.reduceEqDiff])
    | (refine AWP.cond rfl (fun h => ?_) (fun h => ?_) <;> (try simp only [decide_eq_true_eq, decide_eq_false_iff_not, Bool.true_eq_false, Bool.false_eq_true] at h) <;> (try contradiction))
    | (refine hQ' _ _ ?_; clear hQ' Q'; try simp only [AExit.then, AExit.inBlock, reduceIte, Nat.reduceEqDiff])
    | (refine hQ' _ ?_; clear hQ' Q'; try simp only [AExit.then, AExit.inBlock, reduceIte, Nat.reduceEqDiff])
    | (with_reducible refine Branch.split (fun h => ?_) (fun h => ?_) <;> (try simp only [decide_eq_true_eq, decide_eq_false_iff_not, Bool.not_true, Bool.not_false, Bool.true_eq_false, Bool.false_eq_true] at h) <;> (try contradiction) <;> (simp (disch := omega) only [go_sem, Nat.reduceBEq, Nat.reduceLT, Nat.reduceEqDiff, reduceIte, Nat.reduceAdd, Nat.reduceMul, Nat.reduceSub, Nat.reduceLeDiff, Int.reduceToNat, Int.reducePow, Int.reduceLT, Int.reduceEq, Int.reduceNeg, Nat.reducePow, List.reduceReplicate, Int.reduceLE, h]))
    | (with_reducible intro h; try simp only [h, go_sem, Nat.reduceBEq, Nat.reduceLT, Nat.reduceEqDiff, reduceIte, Nat.reduceAdd, Nat.reduceMul, Nat.reduceSub, Nat.reduceLeDiff, Int.reduceToNat, Int.reducePow, Int.reduceLT, Int.reduceEq, Int.reduceNeg, Nat.reducePow, List.reduceReplicate, Int.reduceLE])
    | ((first | (with_reducible refine acall.det (hc _) ?_) | (with_reducible refine qcall.det (hc _) ?_)); try simp (disch := omega) only [go_sem, Nat.reduceBEq, Nat.reduceLT, Nat.reduceEqDiff, reduceIte, Nat.reduceAdd, Nat.reduceMul, Nat.reduceSub, Nat.reduceLeDiff, Int.reduceToNat, Int.reducePow, Int.reduceLT, Int.reduceEq, Int.reduceNeg, Nat.reducePow, List.reduceReplicate, Int.reduceLE]))
  simp only [bodyQ, go_sem, Nat.reduceBEq, Nat.reduceLT, Nat.reduceEqDiff, reduceIte, Nat.reduceAdd, Nat.reduceMul, Nat.reduceSub, Nat.reduceLeDiff, Int.reduceToNat, Int.reducePow, Int.reduceLT, Int.reduceEq, Int.reduceNeg, Nat.reducePow, List.reduceReplicate, Int.reduceLE]
  exact Fin.same ⟨rfl, rfl⟩
theorem strContains_spec (s : List UInt8) (c : UInt8) (hs : s.length ≤ 9223372036854775807) (H : List Box) : ASpec Tryd.prog 31 [vs s, vs [c]] H (Gives (vb (decide (0 ≤ indexByte s c))) H) := by
  have hc := fun H => strIndex_spec s c hs H
  intro base
  refine acall_body Tryd.func31 rfl (fun a w => Tryd.call31 a w) Tryd.ntmps31 Tryd.results31 (by simp) ?_
  intro w β hI
  simp only [number]
  repeat' (first
    | (refine AWP.seq ?_)
    | (refine AWP.block ?_)
    | (refine AWP.region_k fun Q' hQ' => ?_)
    | (refine AWP.draw_k rfl (by kernel_rfl) fun Q' hQ' => ?_)
    | (with_reducible refine aops.step fun T hT => ?_; simp (disch := omega) only [go_sem, Nat.reduceBEq, Nat.reduceLT, Nat.reduceEqDiff, reduceIte, Nat.reduceAdd, Nat.reduceMul, Nat.reduceSub, Nat.reduceLeDiff, Int.reduceToNat, Int.reducePow, Int.reduceLT, Int.reduceEq, Int.reduceNeg, Nat.reducePow, List.reduceReplicate, Int.reduceLE])
    | (with_reducible refine qops.step fun T hT => ?_; simp (disch := omega) only [go_sem, Nat.reduceBEq, Nat.reduceLT, Nat.reduceEqDiff, reduceIte, Nat.reduceAdd, Nat.reduceMul, Nat.reduceSub, Nat.reduceLeDiff, Int.reduceToNat, Int.reducePow, Int.reduceLT, Int.reduceEq, Int.reduceNeg, Nat.reducePow, List.reduceReplicate, Int.reduceLE])
    | (with_reducible refine aops.nil ?_)
    | (with_reducible refine qops.nil ?_)
    | (with_reducible refine hT _ ?_; clear hT T)
    | (refine AWP.skip ?_; try simp only [AExit.then, AExit.inBlock, reduceIte, Nat.reduceEqDiff])
    | (refine AWP.exit ?_; try simp only [AExit.then, AExit.inBlock, reduceIte, Nat.reduceEqDiff])
    | (refine AWP.ret ?_; try simp only [AExit.then, AExit.inBlock, reduceIte, Nat.reduceEqDiff])
    | (refine AWP.cond rfl (fun h => ?_) (fun h => ?_) <;> (try simp only [decide_eq_true_eq, decide_eq_false_iff_not, Bool.true_eq_false, Bool.false_eq_true] at h) <;> (try contradiction))
    | (refine hQ' _ _ ?_; clear hQ' Q'; try simp only [AExit.then, AExit.inBlock, reduceIte, Nat.reduceEqDiff])
    | (refine hQ' _ ?_; clear hQ' Q'; try simp only [AExit.then, AExit.inBlock, reduceIte, Nat.reduceEqDiff])
    | (with_reducible refine Branch.split (fun h => ?_) (fun h => ?_) <;> (try simp only [decide_eq_true_eq, decide_eq_false_iff_not, Bool.not_true, Bool.not_false, Bool.true_eq_false, Bool.false_eq_true] at h) <;> (try contradiction) <;> (simp (disch := omega) only [go_sem, Nat.reduceBEq, Nat.reduceLT, Nat.reduceEqDiff, reduceIte, Nat.reduceAdd, Nat.reduceMul, Nat.reduceSub, Nat.reduceLeDiff, Int.reduceToNat, Int.reducePow, Int.reduceLT, Int.reduceEq, Int.reduceNeg, Nat.reducePow, List.reduceReplicate, Int.reduceLE, h]))
    | (with_reducible intro h; try simp only [h, go_sem, Nat.reduceBEq, Nat.reduceLT, Nat.reduceEqDiff, reduceIte, Nat.reduceAdd, Nat.reduceMul, Nat.reduceSub, Nat.reduceLeDiff, Int.reduceToNat, Int.reducePow, Int.reduceLT, Int.reduceEq, Int.reduceNeg, Nat.reducePow, List.reduceReplicate, Int.reduceLE])
    | ((first | (with_reducible refine acall.det (hc _) ?_) | (with_reducible refine qcall.det (hc _) ?_)); try simp (disch := omega) only [go_sem, Nat.reduceBEq, Nat.reduceLT, Nat.reduceEqDiff, reduceIte, Nat.reduceAdd, Nat.reduceMul, Nat.reduceSub, Nat.reduceLeDiff, Int.reduceToNat, Int.reducePow, Int.reduceLT, Int.reduceEq, Int.reduceNeg, Nat.reducePow, List.reduceReplicate, Int.reduceLE]))
  simp only [bodyQ, go_sem, Nat.reduceBEq, Nat.reduceLT, Nat.reduceEqDiff, reduceIte, Nat.reduceAdd, Nat.reduceMul, Nat.reduceSub, Nat.reduceLeDiff, Int.reduceToNat, Int.reducePow, Int.reduceLT, Int.reduceEq, Int.reduceNeg, Nat.reducePow, List.reduceReplicate, Int.reduceLE]
  exact Fin.same ⟨rfl, rfl⟩
theorem strCount_spec (s : List UInt8) (c : UInt8) (hs : s.length ≤ 9223372036854775807) (H : List Box) : ASpec Tryd.prog 48 [vs s, vs [c]] H (Gives (vi (s.count c)) H) := by
  have hc := fun H => countString_spec s c H
  intro base
  refine acall_body Tryd.func48 rfl (fun a w => Tryd.call48 a w) Tryd.ntmps48 Tryd.results48 (by simp) ?_
  intro w β hI
  simp only [number]
  repeat' (first
    | (refine AWP.seq ?_)
    | (refine AWP.block ?_)
    | (refine AWP.region_k fun Q' hQ' => ?_)
    | (refine AWP.draw_k rfl (by kernel_rfl) fun Q' hQ' => ?_)
    | (with_reducible refine aops.step fun T hT => ?_; simp (disch := omega) only [go_sem, Nat.reduceBEq, Nat.reduceLT, Nat.reduceEqDiff, reduceIte, Nat.reduceAdd, Nat.reduceMul, Nat.reduceSub, Nat.reduceLeDiff, Int.reduceToNat, Int.reducePow, Int.reduceLT, Int.reduceEq, Int.reduceNeg, Nat.reducePow, List.reduceReplicate, Int.reduceLE])
    | (with_reducible refine qops.step fun T hT => ?_; simp (disch := omega) only [go_sem, Nat.reduceBEq, Nat.reduceLT, Nat.reduceEqDiff, reduceIte, Nat.reduceAdd, Nat.reduceMul, Nat.reduceSub, Nat.reduceLeDiff, Int.reduceToNat, Int.reducePow, Int.reduceLT, Int.reduceEq, Int.reduceNeg, Nat.reducePow, List.reduceReplicate, Int.reduceLE])
    | (with_reducible refine aops.nil ?_)
    | (with_reducible refine qops.nil ?_)
    | (with_reducible refine hT _ ?_; clear hT T)
    | (refine AWP.skip ?_; try simp only [AExit.then, AExit.inBlock, reduceIte, Nat.reduceEqDiff])
    | (refine AWP.exit ?_; try simp only [AExit.then, AExit.inBlock, reduceIte, Nat.reduceEqDiff])
    | (refine AWP.ret ?_; try simp only [AExit.then, AExit.inBlock, reduceIte, Nat.reduceEqDiff])
    | (refine AWP.cond rfl (fun h => ?_) (fun h => ?_) <;> (try simp only [decide_eq_true_eq, decide_eq_false_iff_not, Bool.true_eq_false, Bool.false_eq_true] at h) <;> (try contradiction))
    | (refine hQ' _ _ ?_; clear hQ' Q'; try simp only [AExit.then, AExit.inBlock, reduceIte, Nat.reduceEqDiff])
    | (refine hQ' _ ?_; clear hQ' Q'; try simp only [AExit.then, AExit.inBlock, reduceIte, Nat.reduceEqDiff])
    | (with_reducible refine Branch.split (fun h => ?_) (fun h => ?_) <;> (try simp only [decide_eq_true_eq, decide_eq_false_iff_not, Bool.not_true, Bool.not_false, Bool.true_eq_false, Bool.false_eq_true] at h) <;> (try contradiction) <;> (simp (disch := omega) only [go_sem, Nat.reduceBEq, Nat.reduceLT, Nat.reduceEqDiff, reduceIte, Nat.reduceAdd, Nat.reduceMul, Nat.reduceSub, Nat.reduceLeDiff, Int.reduceToNat, Int.reducePow, Int.reduceLT, Int.reduceEq, Int.reduceNeg, Nat.reducePow, List.reduceReplicate, Int.reduceLE, h]))
    | (with_reducible intro h; try simp only [h, go_sem, Nat.reduceBEq, Nat.reduceLT, Nat.reduceEqDiff, reduceIte, Nat.reduceAdd, Nat.reduceMul, Nat.reduceSub, Nat.reduceLeDiff, Int.reduceToNat, Int.reducePow, Int.reduceLT, Int.reduceEq, Int.reduceNeg, Nat.reducePow, List.reduceReplicate, Int.reduceLE])
    | ((first | (with_reducible refine acall.det (hc _) ?_) | (with_reducible refine qcall.det (hc _) ?_)); try simp (disch := omega) only [go_sem, Nat.reduceBEq, Nat.reduceLT, Nat.reduceEqDiff, reduceIte, Nat.reduceAdd, Nat.reduceMul, Nat.reduceSub, Nat.reduceLeDiff, Int.reduceToNat, Int.reducePow, Int.reduceLT, Int.reduceEq, Int.reduceNeg, Nat.reducePow, List.reduceReplicate, Int.reduceLE]))
  simp only [bodyQ, go_sem, Nat.reduceBEq, Nat.reduceLT, Nat.reduceEqDiff, reduceIte, Nat.reduceAdd, Nat.reduceMul, Nat.reduceSub, Nat.reduceLeDiff, Int.reduceToNat, Int.reducePow, Int.reduceLT, Int.reduceEq, Int.reduceNeg, Nat.reducePow, List.reduceReplicate, Int.reduceLE]
  exact Fin.same ⟨rfl, rfl⟩

/-- Without a byte at its end. -/
def trimB (s : List UInt8) (c : UInt8) : List UInt8 := if s.drop (s.length - 1) = [c] then s.take (s.length - 1) else s
theorem hasSuffix_spec (s : List UInt8) (c : UInt8) (hs : s.length ≤ 9223372036854775807) (H : List Box) : ASpec Tryd.prog 49 [vs s, vs [c]] H (Gives (vb (decide (s.drop (s.length - 1) = [c]))) H) := by
  by_cases h1 : (1 : Int) ≤ (s.length : Int)
  · have e : ((s.length : Int) - 1).toNat = s.length - 1 := by omega
    intro base
    refine acall_body Tryd.func49 rfl (fun a w => Tryd.call49 a w) Tryd.ntmps49 Tryd.results49 (by simp) ?_
    intro w β hI
    simp only [number]
    repeat' (first
      | (refine AWP.seq ?_)
      | (refine AWP.block ?_)
      | (refine AWP.region_k fun Q' hQ' => ?_)
      | (refine AWP.draw_k rfl (by kernel_rfl) fun Q' hQ' => ?_)
      | (with_reducible refine aops.step fun T hT => ?_; simp (disch := omega) only [go_sem, Nat.reduceBEq, Nat.reduceLT, Nat.reduceEqDiff, reduceIte, Nat.reduceAdd, Nat.reduceMul, Nat.reduceSub, Nat.reduceLeDiff, Int.reduceToNat, Int.reducePow, Int.reduceLT, Int.reduceEq, Int.reduceNeg, Nat.reducePow, List.reduceReplicate, Int.reduceLE, h1])
      | (with_reducible refine qops.step fun T hT => ?_; simp (disch := omega) only [go_sem, Nat.reduceBEq, Nat.reduceLT, Nat.reduceEqDiff, reduceIte, Nat.reduceAdd, Nat.reduceMul, Nat.reduceSub, Nat.reduceLeDiff, Int.reduceToNat, Int.reducePow, Int.reduceLT, Int.reduceEq, Int.reduceNeg, Nat.reducePow, List.reduceReplicate, Int.reduceLE, h1])
      | (with_reducible refine aops.nil ?_)
      | (with_reducible refine qops.nil ?_)
      | (with_reducible refine hT _ ?_; clear hT T)
      | (refine AWP.skip ?_; try simp only [AExit.then, AExit.inBlock, reduceIte, Nat.reduceEqDiff])
      | (refine AWP.exit ?_; try simp only [AExit.then, AExit.inBlock, reduceIte, Nat.reduceEqDiff])
      | (refine AWP.ret ?_; try simp only [AExit.then, AExit.inBlock, reduceIte, Nat.reduceEqDiff])
      | (refine AWP.cond rfl (fun h => ?_) (fun h => ?_) <;> (try simp only [decide_eq_true_eq, decide_eq_false_iff_not, Bool.true_eq_false, Bool.false_eq_true] at h) <;> (try contradiction))
      | (refine hQ' _ _ ?_; clear hQ' Q'; try simp only [AExit.then, AExit.inBlock, reduceIte, Nat.reduceEqDiff])
      | (refine hQ' _ ?_; clear hQ' Q'; try simp only [AExit.then, AExit.inBlock, reduceIte, Nat.reduceEqDiff])
      | (with_reducible refine Branch.split (fun h => ?_) (fun h => ?_) <;> (try simp only [decide_eq_true_eq, decide_eq_false_iff_not, Bool.not_true, Bool.not_false, Bool.true_eq_false, Bool.false_eq_true] at h) <;> (try contradiction) <;> (simp (disch := omega) only [go_sem, Nat.reduceBEq, Nat.reduceLT, Nat.reduceEqDiff, reduceIte, Nat.reduceAdd, Nat.reduceMul, Nat.reduceSub, Nat.reduceLeDiff, Int.reduceToNat, Int.reducePow, Int.reduceLT, Int.reduceEq, Int.reduceNeg, Nat.reducePow, List.reduceReplicate, Int.reduceLE, h, h1]))
      | (with_reducible intro h; try simp only [h, go_sem, Nat.reduceBEq, Nat.reduceLT, Nat.reduceEqDiff, reduceIte, Nat.reduceAdd, Nat.reduceMul, Nat.reduceSub, Nat.reduceLeDiff, Int.reduceToNat, Int.reducePow, Int.reduceLT, Int.reduceEq, Int.reduceNeg, Nat.reducePow, List.reduceReplicate, Int.reduceLE, h1]))
    simp only [bodyQ, go_sem, Nat.reduceBEq, Nat.reduceLT, Nat.reduceEqDiff, reduceIte, Nat.reduceAdd, Nat.reduceMul, Nat.reduceSub, Nat.reduceLeDiff, Int.reduceToNat, Int.reducePow, Int.reduceLT, Int.reduceEq, Int.reduceNeg, Nat.reducePow, List.reduceReplicate, Int.reduceLE]
    rw [e]
    exact Fin.same ⟨rfl, rfl⟩
  · have hs0 : s = [] := List.eq_nil_of_length_eq_zero (by omega)
    subst hs0
    intro base
    refine acall_body Tryd.func49 rfl (fun a w => Tryd.call49 a w) Tryd.ntmps49 Tryd.results49 (by simp) ?_
    intro w β hI
    simp only [number]
    repeat' (first
      | (refine AWP.seq ?_)
      | (refine AWP.block ?_)
      | (refine AWP.region_k fun Q' hQ' => ?_)
      | (refine AWP.draw_k rfl (by kernel_rfl) fun Q' hQ' => ?_)
      | (with_reducible refine aops.step fun T hT => ?_; simp (disch := omega) only [go_sem, Nat.reduceBEq, Nat.reduceLT, Nat.reduceEqDiff, reduceIte, Nat.reduceAdd, Nat.reduceMul, Nat.reduceSub, Nat.reduceLeDiff, Int.reduceToNat, Int.reducePow, Int.reduceLT, Int.reduceEq, Int.reduceNeg, Nat.reducePow, List.reduceReplicate, Int.reduceLE])
      | (with_reducible refine qops.step fun T hT => ?_; simp (disch := omega) only [go_sem, Nat.reduceBEq, Nat.reduceLT, Nat.reduceEqDiff, reduceIte, Nat.reduceAdd, Nat.reduceMul, Nat.reduceSub, Nat.reduceLeDiff, Int.reduceToNat, Int.reducePow, Int.reduceLT, Int.reduceEq, Int.reduceNeg, Nat.reducePow, List.reduceReplicate, Int.reduceLE])
      | (with_reducible refine aops.nil ?_)
      | (with_reducible refine qops.nil ?_)
      | (with_reducible refine hT _ ?_; clear hT T)
      | (refine AWP.skip ?_; try simp only [AExit.then, AExit.inBlock, reduceIte, Nat.reduceEqDiff])
      | (refine AWP.exit ?_; try simp only [AExit.then, AExit.inBlock, reduceIte, Nat.reduceEqDiff])
      | (refine AWP.ret ?_; try simp only [AExit.then, AExit.inBlock, reduceIte, Nat.reduceEqDiff])
      | (refine AWP.cond rfl (fun h => ?_) (fun h => ?_) <;> (try simp only [decide_eq_true_eq, decide_eq_false_iff_not, Bool.true_eq_false, Bool.false_eq_true] at h) <;> (try contradiction))
      | (refine hQ' _ _ ?_; clear hQ' Q'; try simp only [AExit.then, AExit.inBlock, reduceIte, Nat.reduceEqDiff])
      | (refine hQ' _ ?_; clear hQ' Q'; try simp only [AExit.then, AExit.inBlock, reduceIte, Nat.reduceEqDiff])
      | (with_reducible refine Branch.split (fun h => ?_) (fun h => ?_) <;> (try simp only [decide_eq_true_eq, decide_eq_false_iff_not, Bool.not_true, Bool.not_false, Bool.true_eq_false, Bool.false_eq_true] at h) <;> (try contradiction) <;> (simp (disch := omega) only [go_sem, Nat.reduceBEq, Nat.reduceLT, Nat.reduceEqDiff, reduceIte, Nat.reduceAdd, Nat.reduceMul, Nat.reduceSub, Nat.reduceLeDiff, Int.reduceToNat, Int.reducePow, Int.reduceLT, Int.reduceEq, Int.reduceNeg, Nat.reducePow, List.reduceReplicate, Int.reduceLE, h]))
      | (with_reducible intro h; try simp only [h, go_sem, Nat.reduceBEq, Nat.reduceLT, Nat.reduceEqDiff, reduceIte, Nat.reduceAdd, Nat.reduceMul, Nat.reduceSub, Nat.reduceLeDiff, Int.reduceToNat, Int.reducePow, Int.reduceLT, Int.reduceEq, Int.reduceNeg, Nat.reducePow, List.reduceReplicate, Int.reduceLE]))
    simp only [bodyQ, go_sem, Nat.reduceBEq, Nat.reduceLT, Nat.reduceEqDiff, reduceIte, Nat.reduceAdd, Nat.reduceMul, Nat.reduceSub, Nat.reduceLeDiff, Int.reduceToNat, Int.reducePow, Int.reduceLT, Int.reduceEq, Int.reduceNeg, Nat.reducePow, List.reduceReplicate, Int.reduceLE]
    exact Fin.same ⟨by simp, rfl⟩
theorem trimSuffixL_spec (s : List UInt8) (c : UInt8) (hs : s.length ≤ 9223372036854775807) (H : List Box) : ASpec Tryd.prog 41 [vs s, vs [c]] H (Gives (vs (trimB s c)) H) := by
  have hc := fun H => hasSuffix_spec s c hs H
  unfold trimB
  by_cases h : s.drop (s.length - 1) = [c]
  · rw [if_pos h]
    have h1 : 1 ≤ s.length := by
      have := congrArg List.length h
      simp at this
      omega
    have e : ((s.length : Int) - 1).toNat = s.length - 1 := by omega
    simp only [h, decide_true] at hc
    intro base
    refine acall_body Tryd.func41 rfl (fun a w => Tryd.call41 a w) Tryd.ntmps41 Tryd.results41 (by simp) ?_
    intro w β hI
    simp only [number]
    repeat' (first
      | (refine AWP.seq ?_)
      | (refine AWP.block ?_)
      | (refine AWP.region_k fun Q' hQ' => ?_)
      | (refine AWP.draw_k rfl (by kernel_rfl) fun Q' hQ' => ?_)
      | (with_reducible refine aops.step fun T hT => ?_; simp (disch := omega) only [go_sem, Nat.reduceBEq, Nat.reduceLT, Nat.reduceEqDiff, reduceIte, Nat.reduceAdd, Nat.reduceMul, Nat.reduceSub, Nat.reduceLeDiff, Int.reduceToNat, Int.reducePow, Int.reduceLT, Int.reduceEq, Int.reduceNeg, Nat.reducePow, List.reduceReplicate, Int.reduceLE])
      | (with_reducible refine qops.step fun T hT => ?_; simp (disch := omega) only [go_sem, Nat.reduceBEq, Nat.reduceLT, Nat.reduceEqDiff, reduceIte, Nat.reduceAdd, Nat.reduceMul, Nat.reduceSub, Nat.reduceLeDiff, Int.reduceToNat, Int.reducePow, Int.reduceLT, Int.reduceEq, Int.reduceNeg, Nat.reducePow, List.reduceReplicate, Int.reduceLE])
      | (with_reducible refine aops.nil ?_)
      | (with_reducible refine qops.nil ?_)
      | (with_reducible refine hT _ ?_; clear hT T)
      | (refine AWP.skip ?_; try simp only [AExit.then, AExit.inBlock, reduceIte, Nat.reduceEqDiff])
      | (refine AWP.exit ?_; try simp only [AExit.then, AExit.inBlock, reduceIte, Nat.reduceEqDiff])
      | (refine AWP.ret ?_; try simp only [AExit.then, AExit.inBlock, reduceIte, Nat.reduceEqDiff])
      | (refine AWP.cond rfl (fun h => ?_) (fun h => ?_) <;> (try simp only [decide_eq_true_eq, decide_eq_false_iff_not, Bool.true_eq_false, Bool.false_eq_true] at h) <;> (try contradiction))
      | (refine hQ' _ _ ?_; clear hQ' Q'; try simp only [AExit.then, AExit.inBlock, reduceIte, Nat.reduceEqDiff])
      | (refine hQ' _ ?_; clear hQ' Q'; try simp only [AExit.then, AExit.inBlock, reduceIte, Nat.reduceEqDiff])
      | (with_reducible refine Branch.split (fun h => ?_) (fun h => ?_) <;> (try simp only [decide_eq_true_eq, decide_eq_false_iff_not, Bool.not_true, Bool.not_false, Bool.true_eq_false, Bool.false_eq_true] at h) <;> (try contradiction) <;> (simp (disch := omega) only [go_sem, Nat.reduceBEq, Nat.reduceLT, Nat.reduceEqDiff, reduceIte, Nat.reduceAdd, Nat.reduceMul, Nat.reduceSub, Nat.reduceLeDiff, Int.reduceToNat, Int.reducePow, Int.reduceLT, Int.reduceEq, Int.reduceNeg, Nat.reducePow, List.reduceReplicate, Int.reduceLE, h]))
      | (with_reducible intro h; try simp only [h, go_sem, Nat.reduceBEq, Nat.reduceLT, Nat.reduceEqDiff, reduceIte, Nat.reduceAdd, Nat.reduceMul, Nat.reduceSub, Nat.reduceLeDiff, Int.reduceToNat, Int.reducePow, Int.reduceLT, Int.reduceEq, Int.reduceNeg, Nat.reducePow, List.reduceReplicate, Int.reduceLE])
      | ((first | (with_reducible refine acall.det (hc _) ?_) | (with_reducible refine qcall.det (hc _) ?_)); try simp (disch := omega) only [go_sem, Nat.reduceBEq, Nat.reduceLT, Nat.reduceEqDiff, reduceIte, Nat.reduceAdd, Nat.reduceMul, Nat.reduceSub, Nat.reduceLeDiff, Int.reduceToNat, Int.reducePow, Int.reduceLT, Int.reduceEq, Int.reduceNeg, Nat.reducePow, List.reduceReplicate, Int.reduceLE]))
    simp only [bodyQ, go_sem, Nat.reduceBEq, Nat.reduceLT, Nat.reduceEqDiff, reduceIte, Nat.reduceAdd, Nat.reduceMul, Nat.reduceSub, Nat.reduceLeDiff, Int.reduceToNat, Int.reducePow, Int.reduceLT, Int.reduceEq, Int.reduceNeg, Nat.reducePow, List.reduceReplicate, Int.reduceLE]
    rw [e]
    exact Fin.same ⟨rfl, rfl⟩
  · rw [if_neg h]
    simp only [h, decide_false] at hc
    intro base
    refine acall_body Tryd.func41 rfl (fun a w => Tryd.call41 a w) Tryd.ntmps41 Tryd.results41 (by simp) ?_
    intro w β hI
    simp only [number]
    repeat' (first
      | (refine AWP.seq ?_)
      | (refine AWP.block ?_)
      | (refine AWP.region_k fun Q' hQ' => ?_)
      | (refine AWP.draw_k rfl (by kernel_rfl) fun Q' hQ' => ?_)
      | (with_reducible refine aops.step fun T hT => ?_; simp (disch := omega) only [go_sem, Nat.reduceBEq, Nat.reduceLT, Nat.reduceEqDiff, reduceIte, Nat.reduceAdd, Nat.reduceMul, Nat.reduceSub, Nat.reduceLeDiff, Int.reduceToNat, Int.reducePow, Int.reduceLT, Int.reduceEq, Int.reduceNeg, Nat.reducePow, List.reduceReplicate, Int.reduceLE])
      | (with_reducible refine qops.step fun T hT => ?_; simp (disch := omega) only [go_sem, Nat.reduceBEq, Nat.reduceLT, Nat.reduceEqDiff, reduceIte, Nat.reduceAdd, Nat.reduceMul, Nat.reduceSub, Nat.reduceLeDiff, Int.reduceToNat, Int.reducePow, Int.reduceLT, Int.reduceEq, Int.reduceNeg, Nat.reducePow, List.reduceReplicate, Int.reduceLE])
      | (with_reducible refine aops.nil ?_)
      | (with_reducible refine qops.nil ?_)
      | (with_reducible refine hT _ ?_; clear hT T)
      | (refine AWP.skip ?_; try simp only [AExit.then, AExit.inBlock, reduceIte, Nat.reduceEqDiff])
      | (refine AWP.exit ?_; try simp only [AExit.then, AExit.inBlock, reduceIte, Nat.reduceEqDiff])
      | (refine AWP.ret ?_; try simp only [AExit.then, AExit.inBlock, reduceIte, Nat.reduceEqDiff])
      | (refine AWP.cond rfl (fun h => ?_) (fun h => ?_) <;> (try simp only [decide_eq_true_eq, decide_eq_false_iff_not, Bool.true_eq_false, Bool.false_eq_true] at h) <;> (try contradiction))
      | (refine hQ' _ _ ?_; clear hQ' Q'; try simp only [AExit.then, AExit.inBlock, reduceIte, Nat.reduceEqDiff])
      | (refine hQ' _ ?_; clear hQ' Q'; try simp only [AExit.then, AExit.inBlock, reduceIte, Nat.reduceEqDiff])
      | (with_reducible refine Branch.split (fun h => ?_) (fun h => ?_) <;> (try simp only [decide_eq_true_eq, decide_eq_false_iff_not, Bool.not_true, Bool.not_false, Bool.true_eq_false, Bool.false_eq_true] at h) <;> (try contradiction) <;> (simp (disch := omega) only [go_sem, Nat.reduceBEq, Nat.reduceLT, Nat.reduceEqDiff, reduceIte, Nat.reduceAdd, Nat.reduceMul, Nat.reduceSub, Nat.reduceLeDiff, Int.reduceToNat, Int.reducePow, Int.reduceLT, Int.reduceEq, Int.reduceNeg, Nat.reducePow, List.reduceReplicate, Int.reduceLE, h]))
      | (with_reducible intro h; try simp only [h, go_sem, Nat.reduceBEq, Nat.reduceLT, Nat.reduceEqDiff, reduceIte, Nat.reduceAdd, Nat.reduceMul, Nat.reduceSub, Nat.reduceLeDiff, Int.reduceToNat, Int.reducePow, Int.reduceLT, Int.reduceEq, Int.reduceNeg, Nat.reducePow, List.reduceReplicate, Int.reduceLE])
      | ((first | (with_reducible refine acall.det (hc _) ?_) | (with_reducible refine qcall.det (hc _) ?_)); try simp (disch := omega) only [go_sem, Nat.reduceBEq, Nat.reduceLT, Nat.reduceEqDiff, reduceIte, Nat.reduceAdd, Nat.reduceMul, Nat.reduceSub, Nat.reduceLeDiff, Int.reduceToNat, Int.reducePow, Int.reduceLT, Int.reduceEq, Int.reduceNeg, Nat.reducePow, List.reduceReplicate, Int.reduceLE]))
    simp only [bodyQ, go_sem, Nat.reduceBEq, Nat.reduceLT, Nat.reduceEqDiff, reduceIte, Nat.reduceAdd, Nat.reduceMul, Nat.reduceSub, Nat.reduceLeDiff, Int.reduceToNat, Int.reducePow, Int.reduceLT, Int.reduceEq, Int.reduceNeg, Nat.reducePow, List.reduceReplicate, Int.reduceLE]
    exact Fin.same ⟨rfl, rfl⟩
theorem trimSuffix_spec (s : List UInt8) (c : UInt8) (hs : s.length ≤ 9223372036854775807) (H : List Box) : ASpec Tryd.prog 27 [vs s, vs [c]] H (Gives (vs (trimB s c)) H) := by
  have hc := fun H => trimSuffixL_spec s c hs H
  intro base
  refine acall_body Tryd.func27 rfl (fun a w => Tryd.call27 a w) Tryd.ntmps27 Tryd.results27 (by simp) ?_
  intro w β hI
  simp only [number]
  repeat' (first
    | (refine AWP.seq ?_)
    | (refine AWP.block ?_)
    | (refine AWP.region_k fun Q' hQ' => ?_)
    | (refine AWP.draw_k rfl (by kernel_rfl) fun Q' hQ' => ?_)
    | (with_reducible refine aops.step fun T hT => ?_; simp (disch := omega) only [go_sem, Nat.reduceBEq, Nat.reduceLT, Nat.reduceEqDiff, reduceIte, Nat.reduceAdd, Nat.reduceMul, Nat.reduceSub, Nat.reduceLeDiff, Int.reduceToNat, Int.reducePow, Int.reduceLT, Int.reduceEq, Int.reduceNeg, Nat.reducePow, List.reduceReplicate, Int.reduceLE])
    | (with_reducible refine qops.step fun T hT => ?_; simp (disch := omega) only [go_sem, Nat.reduceBEq, Nat.reduceLT, Nat.reduceEqDiff, reduceIte, Nat.reduceAdd, Nat.reduceMul, Nat.reduceSub, Nat.reduceLeDiff, Int.reduceToNat, Int.reducePow, Int.reduceLT, Int.reduceEq, Int.reduceNeg, Nat.reducePow, List.reduceReplicate, Int.reduceLE])
    | (with_reducible refine aops.nil ?_)
    | (with_reducible refine qops.nil ?_)
    | (with_reducible refine hT _ ?_; clear hT T)
    | (refine AWP.skip ?_; try simp only [AExit.then, AExit.inBlock, reduceIte, Nat.reduceEqDiff])
    | (refine AWP.exit ?_; try simp only [AExit.then, AExit.inBlock, reduceIte, Nat.reduceEqDiff])
    | (refine AWP.ret ?_; try simp only [AExit.then, AExit.inBlock, reduceIte, Nat.reduceEqDiff])
    | (refine AWP.cond rfl (fun h => ?_) (fun h => ?_) <;> (try simp only [decide_eq_true_eq, decide_eq_false_iff_not, Bool.true_eq_false, Bool.false_eq_true] at h) <;> (try contradiction))
    | (refine hQ' _ _ ?_; clear hQ' Q'; try simp only [AExit.then, AExit.inBlock, reduceIte, Nat.reduceEqDiff])
    | (refine hQ' _ ?_; clear hQ' Q'; try simp only [AExit.then, AExit.inBlock, reduceIte, Nat.reduceEqDiff])
    | (with_reducible refine Branch.split (fun h => ?_) (fun h => ?_) <;> (try simp only [decide_eq_true_eq, decide_eq_false_iff_not, Bool.not_true, Bool.not_false, Bool.true_eq_false, Bool.false_eq_true] at h) <;> (try contradiction) <;> (simp (disch := omega) only [go_sem, Nat.reduceBEq, Nat.reduceLT, Nat.reduceEqDiff, reduceIte, Nat.reduceAdd, Nat.reduceMul, Nat.reduceSub, Nat.reduceLeDiff, Int.reduceToNat, Int.reducePow, Int.reduceLT, Int.reduceEq, Int.reduceNeg, Nat.reducePow, List.reduceReplicate, Int.reduceLE, h]))
    | (with_reducible intro h; try simp only [h, go_sem, Nat.reduceBEq, Nat.reduceLT, Nat.reduceEqDiff, reduceIte, Nat.reduceAdd, Nat.reduceMul, Nat.reduceSub, Nat.reduceLeDiff, Int.reduceToNat, Int.reducePow, Int.reduceLT, Int.reduceEq, Int.reduceNeg, Nat.reducePow, List.reduceReplicate, Int.reduceLE])
    | ((first | (with_reducible refine acall.det (hc _) ?_) | (with_reducible refine qcall.det (hc _) ?_)); try simp (disch := omega) only [go_sem, Nat.reduceBEq, Nat.reduceLT, Nat.reduceEqDiff, reduceIte, Nat.reduceAdd, Nat.reduceMul, Nat.reduceSub, Nat.reduceLeDiff, Int.reduceToNat, Int.reducePow, Int.reduceLT, Int.reduceEq, Int.reduceNeg, Nat.reducePow, List.reduceReplicate, Int.reduceLE]))
  simp only [bodyQ, go_sem, Nat.reduceBEq, Nat.reduceLT, Nat.reduceEqDiff, reduceIte, Nat.reduceAdd, Nat.reduceMul, Nat.reduceSub, Nat.reduceLeDiff, Int.reduceToNat, Int.reducePow, Int.reduceLT, Int.reduceEq, Int.reduceNeg, Nat.reducePow, List.reduceReplicate, Int.reduceLE]
  exact Fin.same ⟨rfl, rfl⟩

/-! ### Parts between bytes -/
def splitC (c : UInt8) : List UInt8 → List (List UInt8)
  | [] => [[]]
  | b :: r => if b = c then [] :: splitC c r else match splitC c r with
    | h :: t => (b :: h) :: t
    | [] => [[b]]
theorem splitC_none {c : UInt8} : ∀ {s : List UInt8}, s.count c = 0 → splitC c s = [s]
  | [], _ => rfl
  | b :: r, h => by
    rw [List.count_cons] at h
    have hb : ¬ b = c := fun e => by subst e; simp at h
    rw [splitC, if_neg hb, splitC_none (by omega)]
theorem splitC_some {c : UInt8} : ∀ {s : List UInt8}, 0 < s.count c → ∃ m : Nat, indexByte s c = m ∧ m < s.length ∧ splitC c s = s.take m :: splitC c (s.drop (m + 1)) ∧ (s.drop (m + 1)).count c + 1 = s.count c
  | [], h => by simp at h
  | b :: r, h => by
    by_cases hb : b = c
    · subst hb
      exact ⟨0, by simp [indexByte], by simp, by simp [splitC], by simp [List.count_cons]⟩
    · rw [List.count_cons] at h ⊢
      have hbc : (b == c) = false := by simp [hb]
      simp only [hbc, Bool.false_eq_true, if_false, Nat.add_zero] at h ⊢
      obtain ⟨m, h1, h2, h3, h4⟩ := splitC_some h
      refine ⟨m + 1, ?_, by simp; omega, ?_, by simpa using h4⟩
      · unfold indexByte
        rw [hbc, h1]
        simp only [Bool.false_eq_true, if_false]
        have : ((m : Int) == -1) = false := by rw [beq_eq_false_iff_ne]; omega
        rw [this]
        simp
      · rw [splitC, if_neg hb, h3]
        simp
theorem count_le (s : List UInt8) (c : UInt8) : s.count c ≤ s.length := List.count_le_length

end Go.Proofs.YtkkhbmpcpilmfaaDoor.VL

/- Layer 13: a ring whose next sector may be torn, in plain lists; fuses, and waking. -/
import Derived.Test.YtkkhbmpcpilmfaaJrnP
import Derived.Test.YtkkhbmpcpilmfaaJrnK
-- STEPWISE
-- TAIL
set_option linter.unusedVariables false
set_option linter.unusedSimpArgs false
set_option maxRecDepth 10000
namespace Go.Proofs.Ytkkhbmpcpilmfaa.VL
open Go Go.RowKit Go.Lib

/-- The last record stands in its place, and what else stands is older. -/
structure Good (s : List (List UInt8)) (x : Rc) : Prop where
  len : s.length = 3
  a64 : all64 s
  may : jmay x = true
  at_ : s[(x.q % 3).toNat]? = some (recB x)
  oth : ∀ (j : Nat) (b : List UInt8), j < 3 → (j : Int) ≠ x.q % 3 → s[j]? = some b → (jfind b).2 = 0 → (jfind b).1.q < x.q

theorem Good.scan {s : List (List UInt8)} {x : Rc} (h : Good s x) : ∀ i : Nat, i ≤ 3 → ((i : Int) ≤ x.q % 3 → (jscan s i).q < x.q) ∧ (x.q % 3 < (i : Int) → jscan s i = x) := by
  have hm := jmay_spec h.may
  intro i
  induction i with
  | zero => intro _; exact ⟨fun _ => by simp only [jscan, R0]; omega, fun hh => by omega⟩
  | succ i ih =>
    intro hi
    obtain ⟨h1, h2⟩ := ih (by omega)
    have hlt : i < s.length := by have := h.len; omega
    have hg : s[i]? = some s[i] := List.getElem?_eq_getElem hlt
    rw [jscan, hg]
    dsimp only
    by_cases hiq : (i : Int) = x.q % 3
    · have hat : s[i] = recB x := by
        have := h.at_
        rw [← hiq, Int.toNat_natCast, hg] at this
        exact Option.some.inj this
      rw [hat, jfind_recB h.may, h.len, if_pos ⟨rfl, by dsimp only; omega, h1 (by omega)⟩]
      exact ⟨fun hh => by omega, fun _ => rfl⟩
    · have ho := h.oth i s[i] (by omega) hiq hg
      split
      · rename_i hc
        have := ho hc.1
        exact ⟨fun _ => this, fun hh => by
          have := h2 (by omega)
          rw [this] at hc
          omega⟩
      · exact ⟨fun hh => h1 (by omega), fun hh => h2 (by omega)⟩
theorem Good.last {s : List (List UInt8)} {x : Rc} (h : Good s x) {f : Int} (hf : -1 ≤ f) : jlast ⟨s, f, false⟩ = (x, 0) := by
  have hm := jmay_spec h.may
  have hr : dright ⟨s, f, false⟩ = true := by simp only [dright, decide_eq_true_eq, h.len]; omega
  have hs : jscan s 3 = x := (h.scan 3 (Nat.le_refl _)).2 (by omega)
  unfold jlast
  rw [hr, if_neg (by simp), if_neg (by simp)]
  dsimp only
  rw [h.len, hs, if_neg (by omega)]

theorem torn_find {b : List UInt8} (k : Nat) (hk : k < 64) (hb : b.length = 64) : ¬ (jfind (b.take k ++ zerosB (64 - k))).2 = 0 := by
  intro h
  obtain ⟨h1, h2⟩ := jfind_ok h
  have := recB_last h1
  rw [h2, List.getElem?_append_right (by rw [List.length_take]; omega), List.length_take, zerosB, List.getElem?_replicate] at this
  split at this
  · injection this with this
    exact absurd this (by decide)
  · cases this

/-- A record more, with a fuse or without: it stands, or the one before it does. -/
theorem Good.turn {s : List (List UInt8)} {x : Rc} (h : Good s x) {f : Int} (hf : -1 ≤ f) (hfm : f ≤ 255) {g : Int} {n : List UInt8} (hy : jmay ⟨x.q + 1, g, n⟩ = true) :
    (∃ s' f', jput ⟨s, f, false⟩ ⟨x.q + 1, g, n⟩ = (⟨s', f', false⟩, ⟨x.q + 1, g, n⟩, 0) ∧ -1 ≤ f' ∧ f' ≤ 255 ∧ Good s' ⟨x.q + 1, g, n⟩) ∨
    (f ≠ -1 ∧ ∃ s', jput ⟨s, f, false⟩ ⟨x.q + 1, g, n⟩ = (⟨s', -1, true⟩, R0, 9) ∧ Good s' x) := by
  have hm := jmay_spec h.may
  have hr : dright ⟨s, f, false⟩ = true := by simp only [dright, decide_eq_true_eq, h.len]; omega
  obtain ⟨p, hp, hp3⟩ : ∃ p : Nat, (x.q + 1) % 3 = (p : Int) ∧ p < 3 := ⟨((x.q + 1) % 3).toNat, by omega, by omega⟩
  have hb := recB_length hy
  have hask : dasked ⟨s, f, false⟩ (p : Int) = 0 := by
    unfold dasked
    rw [hr, if_neg (by simp), if_neg (by simp), if_pos (by dsimp only; rw [h.len]; omega)]
  have hput : ∀ D' e, dput ⟨s, f, false⟩ (p : Int) (recB ⟨x.q + 1, g, n⟩) = (D', e) → jput ⟨s, f, false⟩ ⟨x.q + 1, g, n⟩ = if e ≠ 0 then (D', R0, e) else (D', ⟨x.q + 1, g, n⟩, 0) := fun D' e he => by
    unfold jput
    rw [if_neg (by rw [hy]; simp)]
    dsimp only
    rw [h.len, show (x.q + 1) % ((3 : Nat) : Int) = (p : Int) from hp, he]
  have hne : ∀ j b b', j ≠ p → (s.set p b')[j]? = some b → s[j]? = some b := fun j b b' hj hh => by rwa [List.getElem?_set_ne (Ne.symm hj)] at hh
  have good1 : Good (s.set p (recB ⟨x.q + 1, g, n⟩)) ⟨x.q + 1, g, n⟩ := by
    refine ⟨by rw [List.length_set, h.len], all64_set h.a64 _ hb, hy, ?_, fun j b hj hjq hjb hok => ?_⟩
    · dsimp only
      rw [hp, Int.toNat_natCast, List.getElem?_set_self (by rw [h.len]; exact hp3)]
    · dsimp only at hjq ⊢
      have hjp : j ≠ p := fun e => hjq (by rw [e, hp])
      have hjb := hne j b _ hjp hjb
      by_cases hjx : (j : Int) = x.q % 3
      · have := h.at_
        rw [← hjx, Int.toNat_natCast, hjb] at this
        rw [Option.some.inj this, jfind_recB h.may]
        dsimp only; omega
      · have := h.oth j b hj hjx hjb hok
        omega
  by_cases h1 : f = -1
  · left
    refine ⟨s.set p (recB ⟨x.q + 1, g, n⟩), -1, ?_, by omega, by omega, good1⟩
    rw [hput ⟨s.set p (recB ⟨x.q + 1, g, n⟩), -1, false⟩ 0 (by unfold dput; rw [hask, if_neg (by simp), if_pos h1, Int.toNat_natCast]), if_neg (by simp)]
  · by_cases h64 : 64 ≤ f
    · left
      refine ⟨s.set p (recB ⟨x.q + 1, g, n⟩), f - 64, ?_, by omega, by omega, good1⟩
      rw [hput ⟨s.set p (recB ⟨x.q + 1, g, n⟩), f - 64, false⟩ 0 (by unfold dput; rw [hask, if_neg (by simp), if_neg h1, if_pos h64, Int.toNat_natCast]), if_neg (by simp)]
    · right
      refine ⟨h1, s.set p ((recB ⟨x.q + 1, g, n⟩).take f.toNat ++ zerosB (64 - f.toNat)), ?_, ?_⟩
      · rw [hput ⟨s.set p ((recB ⟨x.q + 1, g, n⟩).take f.toNat ++ zerosB (64 - f.toNat)), -1, true⟩ 9 (by unfold dput; rw [hask, if_neg (by simp), if_neg h1, if_neg h64, Int.toNat_natCast]), if_pos (by simp)]
      · have hpx : (p : Int) ≠ x.q % 3 := by omega
        refine ⟨by rw [List.length_set, h.len], all64_set h.a64 _ (by rw [List.length_append, List.length_take, zerosB_length]; omega), h.may, ?_, fun j b hj hjq hjb hok => ?_⟩
        · rw [List.getElem?_set_ne (by omega)]
          exact h.at_
        · by_cases hjp : j = p
          · subst hjp
            rw [List.getElem?_set_self (by rw [h.len]; exact hp3)] at hjb
            injection hjb with hjb
            subst hjb
            exact absurd hok (torn_find f.toNat (by omega) hb)
          · exact h.oth j b hj hjq (hne j b _ hjp hjb) hok
theorem Good.write {s : List (List UInt8)} {x : Rc} (h : Good s x) {f : Int} (hf : -1 ≤ f) {g : Int} {n : List UInt8} (hg : x.g ≤ g) (hy : jmay ⟨x.q + 1, g, n⟩ = true) : jwrite ⟨s, f, false⟩ g n = jput ⟨s, f, false⟩ ⟨x.q + 1, g, n⟩ := by
  have hm := jmay_spec hy
  dsimp only at hm
  unfold jwrite
  rw [h.last hf, if_neg (by simp), if_neg (by dsimp only; rw [h.len]; omega), if_neg (by dsimp only; omega)]
theorem Good.next {s : List (List UInt8)} {x : Rc} (h : Good s x) {f : Int} (hf : -1 ≤ f) {n : List UInt8} (hy : jmay ⟨x.q + 1, x.g + 1, n⟩ = true) : jnext ⟨s, f, false⟩ n = jput ⟨s, f, false⟩ ⟨x.q + 1, x.g + 1, n⟩ := by
  have hm := jmay_spec hy
  dsimp only at hm
  unfold jnext
  rw [h.last hf, if_neg (by simp), if_neg (by dsimp only; omega)]
  exact h.write hf (by dsimp only; omega) hy
theorem good_first : jformat ⟨sec0, -1, false⟩ [] = (⟨[zerosB 64, recB ⟨1, 1, []⟩, zerosB 64], -1, false⟩, ⟨1, 1, []⟩, 0) := by
  unfold jformat
  rw [if_neg (by decide)]
  have h := al_fmt 3 (Nat.le_refl _)
  have hl : (⟨sec0, -1, false⟩ : Dk).s.length = 3 := rfl
  rw [hl, h, if_neg (by simp)]
  have hj : jmay ⟨1, 1, []⟩ = true := by decide
  unfold jput
  rw [if_neg (by rw [hj]; decide)]
  have hq : ((⟨1, 1, []⟩ : Rc).q % ((⟨sec0, -1, false⟩ : Dk).s.length : Int)) = ((1 : Nat) : Int) := rfl
  rw [hq, dput_ok rfl rfl (by decide) (by decide), if_neg (by simp)]
  rfl
theorem good_start : Good [zerosB 64, recB ⟨1, 1, []⟩, zerosB 64] ⟨1, 1, []⟩ := by
  have hy : jmay ⟨1, 1, []⟩ = true := by decide
  have hb := recB_length hy
  refine ⟨rfl, fun x hx => ?_, hy, rfl, fun j b hj hjq hjb hok => ?_⟩
  · simp only [List.mem_cons, List.not_mem_nil, or_false] at hx
    rcases hx with rfl | rfl | rfl
    · exact zerosB_length 64
    · exact hb
    · exact zerosB_length 64
  · have hz : b = zerosB 64 := by
      rcases j with _ | _ | _ | j
      · simpa using hjb.symm
      · exact absurd rfl hjq
      · simpa using hjb.symm
      · omega
    rw [hz, jfind_zeros] at hok
    cases hok

theorem arm_spec (s : List (List UInt8)) (f k : Int) (hl : s.length ≤ 64) (h64 : all64 s) (hf : -1 ≤ f) (hk : -1 ≤ k) (H : List Box) : ASpec Try.prog 25 [.agg [.lst 64 (secG s), vi f, vb false], vi k] H (Gives (.tup [.agg [.lst 64 (secG s), vi k, vb false], vi 0]) H) := by
  have hr := fun H => refRight12_spec ⟨s, f, false⟩ (by dsimp only; omega) H
  have hd : dright ⟨s, f, false⟩ = true := by simp only [dright, decide_eq_true_eq]; omega
  rw [hd] at hr
  have hr : ∀ H, ASpec Try.prog 57 [.agg [.lst 64 (secG s), vi f, vb false]] H (Gives (vb true) H) := hr
  have hc := fun H => copyF_spec ⟨s, f, false⟩ (by dsimp only; omega) h64 H
  have hc : ∀ H, ASpec Try.prog 58 [.agg [.lst 64 (secG s), vi f, vb false]] H (Gives (.agg [.lst 64 (secG s), vi f, vb false]) H) := hc
  have hk' : ¬ k < -1 := by omega
  intro base
  refine acall_body Try.func25 rfl (fun a w => Try.call25 a w) Try.ntmps25 Try.results25 (by simp) ?_
  intro w β hI
  simp only [number]
  repeat' (first
    | (refine AWP.seq ?_)
    | (refine AWP.block ?_)
    | (refine AWP.region_k fun Q' hQ' => ?_)
    | (refine AWP.drawT_k rfl (by decide +kernel) fun Q' hQ' => ?_; simp only [List.length_cons, List.length_nil, Nat.reduceAdd, Nat.reduceSub, List.take_succ_cons, List.take_zero, List.drop_succ_cons, List.drop_zero])
    | (refine AWP.draw_k rfl (by kernel_rfl) fun Q' hQ' => ?_)
    | (with_reducible refine aops.step fun T hT => ?_; simp (disch := omega) only [go_sem, Nat.reduceBEq, Nat.reduceLT, Nat.reduceEqDiff, reduceIte, Nat.reduceAdd, Nat.reduceMul, Nat.reduceSub, Nat.reduceLeDiff, Int.reduceToNat, Int.reducePow, Int.reduceLT, Int.reduceEq, Int.reduceNeg, Nat.reducePow, List.reduceReplicate, Int.reduceLE, hk'])
    | (with_reducible refine qops.step fun T hT => ?_; simp (disch := omega) only [go_sem, Nat.reduceBEq, Nat.reduceLT, Nat.reduceEqDiff, reduceIte, Nat.reduceAdd, Nat.reduceMul, Nat.reduceSub, Nat.reduceLeDiff, Int.reduceToNat, Int.reducePow, Int.reduceLT, Int.reduceEq, Int.reduceNeg, Nat.reducePow, List.reduceReplicate, Int.reduceLE, hk'])
    | (with_reducible refine aops.nil ?_)
    | (with_reducible refine qops.nil ?_)
    | (with_reducible refine hT _ ?_; clear hT T)
    | (refine AWP.skip ?_; try simp only [AExit.then, AExit.inBlock, reduceIte, Nat.reduceEqDiff])
    | (refine AWP.exit ?_; try simp only [AExit.then, AExit.inBlock, reduceIte, Nat.reduceEqDiff])
    | (refine AWP.ret ?_; try simp only [AExit.then, AExit.inBlock, reduceIte, Nat.reduceEqDiff])
    | (refine AWP.cond rfl (fun h => ?_) (fun h => ?_) <;> (try simp only [decide_eq_true_eq, decide_eq_false_iff_not, Bool.true_eq_false, Bool.false_eq_true] at h) <;> (try contradiction))
    | (refine hQ' _ _ ?_; clear hQ' Q'; try simp only [AExit.then, AExit.inBlock, reduceIte, Nat.reduceEqDiff])
    | (refine hQ' _ ?_; clear hQ' Q'; try simp only [AExit.then, AExit.inBlock, reduceIte, Nat.reduceEqDiff])
    | (with_reducible refine Branch.split (fun h => ?_) (fun h => ?_) <;> (try simp only [decide_eq_true_eq, decide_eq_false_iff_not, Bool.not_true, Bool.not_false, Bool.true_eq_false, Bool.false_eq_true] at h) <;> (try contradiction) <;> (simp (disch := omega) only [go_sem, Nat.reduceBEq, Nat.reduceLT, Nat.reduceEqDiff, reduceIte, Nat.reduceAdd, Nat.reduceMul, Nat.reduceSub, Nat.reduceLeDiff, Int.reduceToNat, Int.reducePow, Int.reduceLT, Int.reduceEq, Int.reduceNeg, Nat.reducePow, List.reduceReplicate, Int.reduceLE, h, hk']))
    | (with_reducible intro h; try simp only [h, go_sem, Nat.reduceBEq, Nat.reduceLT, Nat.reduceEqDiff, reduceIte, Nat.reduceAdd, Nat.reduceMul, Nat.reduceSub, Nat.reduceLeDiff, Int.reduceToNat, Int.reducePow, Int.reduceLT, Int.reduceEq, Int.reduceNeg, Nat.reducePow, List.reduceReplicate, Int.reduceLE, hk'])
    | ((first | (with_reducible refine acall.det (hr _) ?_) | (with_reducible refine qcall.det (hr _) ?_) | (with_reducible refine acall.det (hc _) ?_) | (with_reducible refine qcall.det (hc _) ?_)); try simp (disch := omega) only [go_sem, Nat.reduceBEq, Nat.reduceLT, Nat.reduceEqDiff, reduceIte, Nat.reduceAdd, Nat.reduceMul, Nat.reduceSub, Nat.reduceLeDiff, Int.reduceToNat, Int.reducePow, Int.reduceLT, Int.reduceEq, Int.reduceNeg, Nat.reducePow, List.reduceReplicate, Int.reduceLE, hk']))
  simp only [bodyQ, go_sem, Nat.reduceBEq, Nat.reduceLT, Nat.reduceEqDiff, reduceIte, Nat.reduceAdd, Nat.reduceMul, Nat.reduceSub, Nat.reduceLeDiff, Int.reduceToNat, Int.reducePow, Int.reduceLT, Int.reduceEq, Int.reduceNeg, Nat.reducePow, List.reduceReplicate, Int.reduceLE]
  exact Fin.cut (lt_dkT _ _ _ _) ⟨rfl, rfl⟩
theorem wake_spec (s : List (List UInt8)) (f : Int) (d : Bool) (hl : s.length ≤ 64) (h64 : all64 s) (hf : -1 ≤ f) (H : List Box) : ASpec Try.prog 28 [.agg [.lst 64 (secG s), vi f, vb d]] H (Gives (.tup [.agg [.lst 64 (secG s), vi (-1), vb false], vi 0]) H) := by
  have hr := fun H => refRight12_spec ⟨s, f, d⟩ (by dsimp only; omega) H
  have hd : dright ⟨s, f, d⟩ = true := by simp only [dright, decide_eq_true_eq]; omega
  rw [hd] at hr
  have hr : ∀ H, ASpec Try.prog 57 [.agg [.lst 64 (secG s), vi f, vb d]] H (Gives (vb true) H) := hr
  have hc := fun H => copyF_spec ⟨s, f, d⟩ (by dsimp only; omega) h64 H
  have hc : ∀ H, ASpec Try.prog 58 [.agg [.lst 64 (secG s), vi f, vb d]] H (Gives (.agg [.lst 64 (secG s), vi f, vb d]) H) := hc
  intro base
  refine acall_body Try.func28 rfl (fun a w => Try.call28 a w) Try.ntmps28 Try.results28 (by simp) ?_
  intro w β hI
  simp only [number]
  repeat' (first
    | (refine AWP.seq ?_)
    | (refine AWP.block ?_)
    | (refine AWP.region_k fun Q' hQ' => ?_)
    | (refine AWP.drawT_k rfl (by decide +kernel) fun Q' hQ' => ?_; simp only [List.length_cons, List.length_nil, Nat.reduceAdd, Nat.reduceSub, List.take_succ_cons, List.take_zero, List.drop_succ_cons, List.drop_zero])
    | (refine AWP.draw_k rfl (by kernel_rfl) fun Q' hQ' => ?_)
    | (with_reducible refine aops.step fun T hT => ?_; simp (disch := omega) only [go_sem, Nat.reduceBEq, Nat.reduceLT, Nat.reduceEqDiff, reduceIte, Nat.reduceAdd, Nat.reduceMul, Nat.reduceSub, Nat.reduceLeDiff, Int.reduceToNat, Int.reducePow, Int.reduceLT, Int.reduceEq, Int.reduceNeg, Nat.reducePow, List.reduceReplicate, Int.reduceLE])
    | (with_reducible refine qops.step fun T hT => ?_; simp (disch := omega) only [go_sem, Nat.reduceBEq, Nat.reduceLT, Nat.reduceEqDiff, reduceIte, Nat.reduceAdd, Nat.reduceMul, Nat.reduceSub, Nat.reduceLeDiff, Int.reduceToNat, Int.reducePow, Int.reduceLT, Int.reduceEq, Int.reduceNeg, Nat.reducePow, List.reduceReplicate, Int.reduceLE])
    | (with_reducible refine aops.nil ?_)
    | (with_reducible refine qops.nil ?_)
    | (with_reducible refine hT _ ?_; clear hT T)
    | (refine AWP.skip ?_; try simp only [AExit.then, AExit.inBlock, reduceIte, Nat.reduceEqDiff])
    | (refine AWP.exit ?_; try simp only [AExit.then, AExit.inBlock, reduceIte, Nat.reduceEqDiff])
    | (refine AWP.ret ?_; try simp only [AExit.then, AExit.inBlock, reduceIte, Nat.reduceEqDiff])
    | (refine AWP.cond rfl (fun h => ?_) (fun h => ?_) <;> (try simp only [decide_eq_true_eq, decide_eq_false_iff_not, Bool.true_eq_false, Bool.false_eq_true] at h) <;> (try contradiction))
    | (refine hQ' _ _ ?_; clear hQ' Q'; try simp only [AExit.then, AExit.inBlock, reduceIte, Nat.reduceEqDiff])
    | (refine hQ' _ ?_; clear hQ' Q'; try simp only [AExit.then, AExit.inBlock, reduceIte, Nat.reduceEqDiff])
    | (with_reducible refine Branch.split (fun h => ?_) (fun h => ?_) <;> (try simp only [decide_eq_true_eq, decide_eq_false_iff_not, Bool.not_true, Bool.not_false, Bool.true_eq_false, Bool.false_eq_true] at h) <;> (try contradiction) <;> (simp (disch := omega) only [go_sem, Nat.reduceBEq, Nat.reduceLT, Nat.reduceEqDiff, reduceIte, Nat.reduceAdd, Nat.reduceMul, Nat.reduceSub, Nat.reduceLeDiff, Int.reduceToNat, Int.reducePow, Int.reduceLT, Int.reduceEq, Int.reduceNeg, Nat.reducePow, List.reduceReplicate, Int.reduceLE, h]))
    | (with_reducible intro h; try simp only [h, go_sem, Nat.reduceBEq, Nat.reduceLT, Nat.reduceEqDiff, reduceIte, Nat.reduceAdd, Nat.reduceMul, Nat.reduceSub, Nat.reduceLeDiff, Int.reduceToNat, Int.reducePow, Int.reduceLT, Int.reduceEq, Int.reduceNeg, Nat.reducePow, List.reduceReplicate, Int.reduceLE])
    | ((first | (with_reducible refine acall.det (hr _) ?_) | (with_reducible refine qcall.det (hr _) ?_) | (with_reducible refine acall.det (hc _) ?_) | (with_reducible refine qcall.det (hc _) ?_)); try simp (disch := omega) only [go_sem, Nat.reduceBEq, Nat.reduceLT, Nat.reduceEqDiff, reduceIte, Nat.reduceAdd, Nat.reduceMul, Nat.reduceSub, Nat.reduceLeDiff, Int.reduceToNat, Int.reducePow, Int.reduceLT, Int.reduceEq, Int.reduceNeg, Nat.reducePow, List.reduceReplicate, Int.reduceLE]))
  simp only [bodyQ, go_sem, Nat.reduceBEq, Nat.reduceLT, Nat.reduceEqDiff, reduceIte, Nat.reduceAdd, Nat.reduceMul, Nat.reduceSub, Nat.reduceLeDiff, Int.reduceToNat, Int.reducePow, Int.reduceLT, Int.reduceEq, Int.reduceNeg, Nat.reducePow, List.reduceReplicate, Int.reduceLE]
  exact Fin.cut (lt_dkT _ _ _ _) ⟨rfl, rfl⟩

end Go.Proofs.Ytkkhbmpcpilmfaa.VL

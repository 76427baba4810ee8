/- Layer 17: bytes' packet, as the program parses it. -/
import Derived.Test.YtkkhbmpcpilmfaaZPktU
import Derived.Test.YtkkhbmpcpilmfaaZCd
-- STEPWISE
-- TAIL
set_option linter.unusedVariables false
set_option linter.unusedSimpArgs false
set_option maxRecDepth 10000
namespace Go.Proofs.Ytkkhbmpcpilmfaa.VL
open Go Go.RowKit Go.Lib

theorem nmF_len (b : List UInt8) : ∀ (k st j a nx : Nat) (acc : List UInt8), acc.length ≤ 254 → (nmF b k st j a nx acc).1.length ≤ 255
  | 0, _, _, _, _, _, _ => by simp [nmF]
  | k + 1, st, j, a, nx, acc, h => by
    rw [nmF]
    cases hg : b[a]? with
    | none => simp
    | some c =>
      dsimp only
      by_cases hA : 63 < c.toNat ∧ c.toNat < 192
      · rw [if_pos hA]; simp
      rw [if_neg hA]
      by_cases hB : c.toNat < 192
      · rw [if_neg (show ¬ 192 ≤ c.toNat by omega), if_pos hB]
        by_cases hC : b.length < a + (1 + c.toNat)
        · rw [if_pos hC]; simp
        rw [if_neg hC]
        by_cases hD : c.toNat = 0
        · rw [if_pos hD]; simp; omega
        rw [if_neg hD]
        by_cases hF : 255 ≤ acc.length + (1 + c.toNat)
        · rw [if_pos hF]; simp
        rw [if_neg hF]
        refine nmF_len b k _ _ _ _ _ ?_
        simp only [List.length_append, List.length_drop, List.length_take]
        omega
      · rw [if_pos (show 192 ≤ c.toNat by omega), if_neg hB]
        by_cases hC : b.length < a + 2
        · rw [if_pos hC]; simp
        rw [if_neg hC]
        by_cases hD : st ≤ (c.toNat - 192) * 256 + (b[a + 1]?.getD 0).toNat ∨ 16 < j + 1
        · rw [if_pos hD]; simp
        rw [if_neg hD]
        exact nmF_len b k _ _ _ _ _ h
theorem rdM_len (b : List UInt8) (s : Nat × Int) : (rdM b s).1.length ≤ 255 := by
  unfold rdM
  split
  · simp
  · dsimp only
    unfold nmP
    split
    · simp
    · exact nmF_len b _ _ _ _ _ _ (by simp)
theorem qsR_len (b : List UInt8) : ∀ (k : Nat) (s : Nat × Int) (acc : List Qn), (∀ q ∈ acc, q.n.length ≤ 255) → ∀ q ∈ (qsR b k s acc).1, q.n.length ≤ 255
  | 0, _, _, h => h
  | k + 1, s, acc, h => by
    rw [qsR]
    split
    · refine qsR_len b k _ _ fun q hq => ?_
      rcases List.mem_append.1 hq with hq | hq
      · exact h q hq
      · rw [List.mem_singleton.1 hq]; exact rdM_len b s
    · exact h
theorem rsR_len (b : List UInt8) : ∀ (k : Nat) (s : Nat × Int) (acc : List Rr), (∀ r ∈ acc, r.n.length ≤ 255 ∧ r.d.length ≤ 65535) → ∀ r ∈ (rsR b k s acc).1, r.n.length ≤ 255 ∧ r.d.length ≤ 65535
  | 0, _, _, h => h
  | k + 1, s, acc, h => by
    rw [rsR]
    split
    · refine rsR_len b k _ _ fun q hq => ?_
      rcases List.mem_append.1 hq with hq | hq
      · exact h q hq
      · rw [List.mem_singleton.1 hq]
        refine ⟨rdM_len b s, ?_⟩
        have hv : rdN b (rrS b s) 2 < 65536 := rdN_lt b (rrS b s) 2
        have : (rrR b s).1.d.length = rdN b (rrS b s) 2 := rdT_length b _ _
        omega
    · exact h

/-- The reader behind so many numbers of two bytes; the numbers. -/
def hdS (b : List UInt8) : Nat → Nat × Int
  | 0 => (0, 0)
  | k + 1 => (rdT b (hdS b k) 2).2
def hdV (b : List UInt8) (k : Nat) : Nat := rdN b (hdS b k) 2
theorem hdS_le (b : List UInt8) : ∀ k, (hdS b k).1 ≤ b.length
  | 0 => Nat.zero_le _
  | k + 1 => rdT_le b _ 2 (hdS_le b k)
def psQ (b : List UInt8) := qsR b (hdV b 2) (hdS b 6) []
def psA (b : List UInt8) := rsR b (hdV b 3) (psQ b).2 []
def psU (b : List UInt8) := rsR b (hdV b 4) (psA b).2 []
def psM (b : List UInt8) := rsR b (hdV b 5) (psU b).2 []
def psR (b : List UInt8) : Pk := ⟨hdV b 0, hdV b 1, (psQ b).1, (psA b).1, (psU b).1, (psM b).1⟩
def psE (b : List UInt8) : Int :=
  if b.length < 12 then 2 else if 65535 < b.length then 4 else if (psM b).2.2 ≠ 0 then (psM b).2.2 else if (psM b).2.1 < b.length then 3 else if pOk (psR b) = false then 1 else 0
abbrev zero6 : List AV := [vi 0, vi 0, .emp, .emp, .emp, .emp]
def psV (b : List UInt8) : AV := .tup [.agg (if psE b = 0 then pkC (psR b) else zero6), vi (psE b)]

theorem Coe.empPk {E : Ent} {l : List (Nat × AV)} {R X C : Box} (id fl : Int) :
    Coe E ⟨l, E.H ++ [R, X, ⟨[vi id, vi fl, .emp, .emp, .emp, .emp], 0, 0, false⟩, C]⟩
      ⟨l, E.H ++ [R, X, ppX E.H id fl 0 [] (.sl (E.H.length + 5) 0 0 0 5 false) (.sl (E.H.length + 6) 0 0 0 5 false) (.sl (E.H.length + 7) 0 0 0 5 false), C, ⟨qnF [], 0, 0, true⟩, ⟨rrF [], 0, 0, true⟩, ⟨rrF [], 0, 0, true⟩, ⟨rrF [], 0, 0, true⟩]⟩ := by
  refine Coe.trans (Coe.empCell (k := E.H.length + 2) (j := 2) 3 (app_get _ 2 rfl) rfl) ?_
  rw [List.append_assoc, app_set _ 2 rfl, List.length_append]
  simp only [List.cons_append, List.nil_append, List.set_cons_succ, List.set_cons_zero, List.length_cons, List.length_nil, Nat.reduceAdd, Nat.zero_add]
  refine Coe.trans (Coe.empCell (k := E.H.length + 2) (j := 3) 5 (app_get _ 2 rfl) rfl) ?_
  rw [List.append_assoc, app_set _ 2 rfl, List.length_append]
  simp only [List.cons_append, List.nil_append, List.set_cons_succ, List.set_cons_zero, List.length_cons, List.length_nil, Nat.reduceAdd, Nat.zero_add]
  refine Coe.trans (Coe.empCell (k := E.H.length + 2) (j := 4) 5 (app_get _ 2 rfl) rfl) ?_
  rw [List.append_assoc, app_set _ 2 rfl, List.length_append]
  simp only [List.cons_append, List.nil_append, List.set_cons_succ, List.set_cons_zero, List.length_cons, List.length_nil, Nat.reduceAdd, Nat.zero_add]
  refine Coe.trans (Coe.empCell (k := E.H.length + 2) (j := 5) 5 (app_get _ 2 rfl) rfl) ?_
  rw [List.append_assoc, app_set _ 2 rfl, List.length_append]
  simp only [List.cons_append, List.nil_append, List.set_cons_succ, List.set_cons_zero, List.length_cons, List.length_nil, Nat.reduceAdd, Nat.zero_add]
  exact Coe.refl _ _

end Go.Proofs.Ytkkhbmpcpilmfaa.VL

/- Layer 17: bytes' packet, as the program parses it: the walk. -/
-- STEPWISE
-- WK
-- TAIL
set_option linter.unusedVariables false
set_option linter.unusedSimpArgs false
set_option maxRecDepth 10000
namespace Go.Proofs.Ytkkhbmpcpilmfaa.VL
open Go Go.RowKit Go.Lib

theorem qsR_count (b : List UInt8) : ∀ (k : Nat) (s : Nat × Int) (acc : List Qn), (qsR b k s acc).1.length ≤ acc.length + k
  | 0, _, _ => Nat.le_refl _
  | k + 1, s, acc => by
    rw [qsR]
    split
    · have := qsR_count b k (qnR b s).2 (acc ++ [(qnR b s).1])
      rw [List.length_append, List.length_singleton] at this
      omega
    · dsimp only; omega
theorem rsR_count (b : List UInt8) : ∀ (k : Nat) (s : Nat × Int) (acc : List Rr), (rsR b k s acc).1.length ≤ acc.length + k
  | 0, _, _ => Nat.le_refl _
  | k + 1, s, acc => by
    rw [rsR]
    split
    · have := rsR_count b k (rrR b s).2 (acc ++ [(rrR b s).1])
      rw [List.length_append, List.length_singleton] at this
      omega
    · dsimp only; omega

set_option maxHeartbeats 8000000 in
theorem pktParse_spec (b : List UInt8) (hb48 : b.length ≤ 8796093022208) (H : List Box) : ASpec Try.prog 12 [vB b] H (Gives (psV b) H) := by
  by_cases hs : (b.length : Int) < 12
  · have e : psE b = 2 := by unfold psE; rw [if_pos (by omega)]
    rw [psV, e, if_neg (by decide)]
    refine ASpec.enter Try.func12 rfl (fun a w => Try.call12 a w) Try.ntmps12 Try.results12 fun base w β hI => ?_
    refine wk (wA hs wT) (wA TlM.mk wT) ?_
    refine wkEnd wT ?_
    exact Fin.cut ((Lt.agg _ fun i c hc => lt_zero6 c (List.mem_of_getElem? hc)).cons_tup ((Lt.v _).cons_tup .nil_tup)) ⟨rfl, rfl⟩
  by_cases hl : (65535 : Int) < (b.length : Int)
  · have e : psE b = 4 := by unfold psE; rw [if_neg (by omega), if_pos (by omega)]
    rw [psV, e, if_neg (by decide)]
    refine ASpec.enter Try.func12 rfl (fun a w => Try.call12 a w) Try.ntmps12 Try.results12 fun base w β hI => ?_
    refine wk (wA hs (wA hl wT)) (wA TlM.mk wT) ?_
    refine wkEnd wT ?_
    exact Fin.cut ((Lt.agg _ fun i c hc => lt_zero6 c (List.mem_of_getElem? hc)).cons_tup ((Lt.v _).cons_tup .nil_tup)) ⟨rfl, rfl⟩
  have hbl : b.length ≤ 65535 := by omega
  have hn := fun (k : Nat) (x0 : Box) (N : List Box) => rdNum_at1 b (by omega) (hdS b k) 2 (by omega) (hdS_le b k) H x0 N
  have n0 : ∀ (x0 : Box) (N : List Box), ASpec Try.prog 36 [.ptr (H.length + 1) 0 0, vi 2] (H ++ (x0 :: rdX b (0, 0) :: N)) (Gives (vi (hdV b 0)) (H ++ (x0 :: rdX b (hdS b 1) :: N))) := hn 0
  have n1 : ∀ (x0 : Box) (N : List Box), ASpec Try.prog 36 [.ptr (H.length + 1) 0 0, vi 2] (H ++ (x0 :: rdX b (hdS b 1) :: N)) (Gives (vi (hdV b 1)) (H ++ (x0 :: rdX b (hdS b 2) :: N))) := hn 1
  have n2 : ∀ (x0 : Box) (N : List Box), ASpec Try.prog 36 [.ptr (H.length + 1) 0 0, vi 2] (H ++ (x0 :: rdX b (hdS b 2) :: N)) (Gives (vi (hdV b 2)) (H ++ (x0 :: rdX b (hdS b 3) :: N))) := hn 2
  have n3 : ∀ (x0 : Box) (N : List Box), ASpec Try.prog 36 [.ptr (H.length + 1) 0 0, vi 2] (H ++ (x0 :: rdX b (hdS b 3) :: N)) (Gives (vi (hdV b 3)) (H ++ (x0 :: rdX b (hdS b 4) :: N))) := hn 3
  have n4 : ∀ (x0 : Box) (N : List Box), ASpec Try.prog 36 [.ptr (H.length + 1) 0 0, vi 2] (H ++ (x0 :: rdX b (hdS b 4) :: N)) (Gives (vi (hdV b 4)) (H ++ (x0 :: rdX b (hdS b 5) :: N))) := hn 4
  have n5 : ∀ (x0 : Box) (N : List Box), ASpec Try.prog 36 [.ptr (H.length + 1) 0 0, vi 2] (H ++ (x0 :: rdX b (hdS b 5) :: N)) (Gives (vi (hdV b 5)) (H ++ (x0 :: rdX b (hdS b 6) :: N))) := hn 5
  have hv : ∀ k, hdV b k ≤ 65535 := fun k => by have : hdV b k < 65536 := rdN_lt b (hdS b k) 2; omega
  have hloop := fun c3 c4 c5 R C ba bu bm E hE Q => qsP_loop b hbl (hdV b 0) (hdV b 1) c3 c4 c5 R C ba bu bm (hdV b 2) (hv 2) (hdS b 6) (hdS_le b 6) E hE Q _ rfl
  have hps := fun gq hs0 E hE Q => psP_loop b hbl (hdV b 0) (hdV b 1) gq (psQ b).1 (hdV b 3) (hdV b 4) (hdV b 5) (hv 3) (hv 4) (hv 5) (psQ b).2 hs0 E hE Q _ rfl
  have hPL : PkL (psR b) := by
    have q1 := qsR_len b (hdV b 2) (hdS b 6) [] (by simp)
    have a1 := rsR_len b (hdV b 3) (psQ b).2 [] (by simp)
    have u1 := rsR_len b (hdV b 4) (psA b).2 [] (by simp)
    have m1 := rsR_len b (hdV b 5) (psU b).2 [] (by simp)
    have q2 := qsR_count b (hdV b 2) (hdS b 6) []
    have a2 := rsR_count b (hdV b 3) (psQ b).2 []
    have u2 := rsR_count b (hdV b 4) (psA b).2 []
    have m2 := rsR_count b (hdV b 5) (psU b).2 []
    have v2 := hv 2
    have v3 := hv 3
    have v4 := hv 4
    have v5 := hv 5
    exact ⟨fun q hq => by have := q1 q hq; omega, fun r hr => by have := a1 r hr; omega, fun r hr => by have := u1 r hr; omega, fun r hr => by have := m1 r hr; omega,
      by show (qsR b (hdV b 2) (hdS b 6) []).1.length ≤ _; simp at q2; omega, by show (rsR b (hdV b 3) (psQ b).2 []).1.length ≤ _; simp at a2; omega,
      by show (rsR b (hdV b 4) (psA b).2 []).1.length ≤ _; simp at u2; omega, by show (rsR b (hdV b 5) (psU b).2 []).1.length ≤ _; simp at m2; omega⟩
  have hr := fun H => pktRight_spec (psR b) hPL H
  have hpe : psE b = if (psM b).2.2 ≠ 0 then (psM b).2.2 else if (psM b).2.1 < b.length then 3 else if pOk (psR b) = false then 1 else 0 := by unfold psE; rw [if_neg (by omega), if_neg (by omega)]
  refine ASpec.enter Try.func12 rfl (fun a w => Try.call12 a w) Try.ntmps12 Try.results12 fun base w β hI => ?_
  refine wk (wA hs (wA hl wT)) (wA n0 (wA n1 (wA n2 (wA n3 (wA n4 (wA n5 (wA TlM.mk wT))))))) ?_
  refine AWP.coe (Coe.empPk (E := ⟨base, 132, w, H, β, hI⟩) (R := ⟨zero6, 0, 0, false⟩) (X := rdX b (hdS b 6)) (C := ⟨[vi (hdV b 3), vi (hdV b 4), vi (hdV b 5)], 0, 0, false⟩) (hdV b 0) (hdV b 1)) ?_
  refine AWP.coe ?_ (hloop (.sl (H.length + 5) 0 0 0 5 false) (.sl (H.length + 6) 0 0 0 5 false) (.sl (H.length + 7) 0 0 0 5 false) ⟨zero6, 0, 0, false⟩ ⟨[vi (hdV b 3), vi (hdV b 4), vi (hdV b 5)], 0, 0, false⟩ ⟨rrF [], 0, 0, true⟩ ⟨rrF [], 0, 0, true⟩ ⟨rrF [], 0, 0, true⟩ ⟨base, 132, w, H, β, hI⟩ rfl _ ?_)
  · dsimp only
    exact Coe.kp
  · intro k g hk hle hlen
    simp only [Keeps, List.mem_cons, List.not_mem_nil, or_false, forall_eq_or_imp, forall_eq] at hk
    obtain ⟨k0, k2, k3, k4, k5, k7⟩ := hk
    have hqe : qsR b (hdV b 2) (hdS b 6) [] = psQ b := rfl
    rw [hqe] at hle hlen ⊢
    have hli := lists_spec (psR b) (H.length + 2) 0 (H ++ [⟨zero6, 0, 0, false⟩, rdX b (psQ b).2, ppX H (hdV b 0) (hdV b 1) g (psQ b).1 (.sl (H.length + 5) 0 0 0 5 false) (.sl (H.length + 6) 0 0 0 5 false) (.sl (H.length + 7) 0 0 0 5 false), ⟨[vi (hdV b 3), vi (hdV b 4), vi (hdV b 5)], 0, 0, false⟩, ⟨qnF (psQ b).1, 0, g, true⟩, ⟨rrF [], 0, 0, true⟩, ⟨rrF [], 0, 0, true⟩, ⟨rrF [], 0, 0, true⟩]) (app_get _ 2 rfl) rfl rfl
    dsimp only at k0 k2 k3 k4 k5 k7 ⊢
    refine wk (wA k0 (wA k2 (wA k3 (wA k4 (wA k5 (wA k7 wT)))))) (wA hli (wA TlM.mk wT)) ?_
    refine AWP.coe ?_ (hps g hle ⟨base, 132, w, H, β, hI⟩ rfl _ ?_)
    · dsimp only [psH]
      refine Coe.keep ?_
      simp (disch := omega) only [Keeps, List.mem_cons, List.not_mem_nil, or_false, forall_eq_or_imp, forall_eq, k0, k2, k3, k4, k5, k7, go_sem, Nat.reduceBEq, Nat.reduceLT, Nat.reduceEqDiff, reduceIte, Nat.reduceAdd, Nat.reduceMul, Nat.reduceSub, Nat.reduceLeDiff, Int.reduceToNat, Int.reducePow, Int.reduceLT, Int.reduceEq, Int.reduceNeg, Nat.reducePow, List.reduceReplicate, Int.reduceLE]
    · intro k' ga gu gm ra ru rm hk' hle' la lu lm
      simp only [Keeps, List.mem_cons, List.not_mem_nil, or_false, forall_eq_or_imp, forall_eq] at hk'
      obtain ⟨j0, j2, j4, j5⟩ := hk'
      dsimp only [psH] at j0 j2 j4 j5 ⊢
      refine AWP.coe (Coe.frzPk (E := ⟨base, 132, w, H, β, hI⟩) (psR b) g ga gu gm) ?_
      rw [show rsR b (hdV b 5) (rsR b (hdV b 4) (rsR b (hdV b 3) (psQ b).2 []).2 []).2 [] = psM b from rfl]
      have hz : Lt 0 (.agg zero6) := Lt.agg _ fun i c hc => lt_zero6 c (List.mem_of_getElem? hc)
      have hpk : Lt 0 (.agg (pkC (psR b))) := Lt.agg _ fun i c hc => lt_pkC (psR b) c (List.mem_of_getElem? hc)
      unfold psV
      generalize psM b = M at *
      obtain ⟨ml, ma, me⟩ := M
      dsimp only at hpe ⊢
      by_cases he : me = 0
      · subst he
        rw [if_neg (by simp)] at hpe
        by_cases hat : (ma : Int) < (b.length : Int)
        · rw [if_pos (by omega)] at hpe
          rw [hpe, if_neg (by decide)]
          refine wk (wA j0 (wA j2 (wA j4 (wA j5 (wA hat wT))))) (wA TlM.mk wT) ?_
          refine wkEnd (wA j2 wT) ?_
          exact Fin.cut (hz.cons_tup ((Lt.v _).cons_tup .nil_tup)) ⟨rfl, rfl⟩
        · rw [if_neg (by omega)] at hpe
          cases hok : pOk (psR b) with
          | false =>
            rw [hok] at hr hpe
            rw [if_pos rfl] at hpe
            rw [hpe, if_neg (by decide)]
            refine wk (wA j0 (wA j2 (wA j4 (wA j5 (wA hat wT))))) (wA hr (wA TlM.mk wT)) ?_
            refine wkEnd (wA j2 wT) ?_
            exact Fin.cut (hz.cons_tup ((Lt.v _).cons_tup .nil_tup)) ⟨rfl, rfl⟩
          | true =>
            rw [hok] at hr hpe
            rw [if_neg (by simp)] at hpe
            rw [hpe, if_pos rfl]
            refine wk (wA j0 (wA j2 (wA j4 (wA j5 (wA hat wT))))) (wA hr (wA TlM.mk wT)) ?_
            refine wkEnd (wA j2 wT) ?_
            exact Fin.cut (hpk.cons_tup ((Lt.v _).cons_tup .nil_tup)) ⟨rfl, rfl⟩
      · rw [if_pos he] at hpe
        rw [hpe, if_neg he]
        refine wk (wA j0 (wA j2 (wA j4 (wA j5 (wA he wT))))) (wA TlM.mk wT) ?_
        refine wkEnd (wA j2 wT) ?_
        exact Fin.cut (hz.cons_tup ((Lt.v _).cons_tup .nil_tup)) ⟨rfl, rfl⟩

end Go.Proofs.Ytkkhbmpcpilmfaa.VL

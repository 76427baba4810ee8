/- Layer 20: the reference's Decode: its loops. -/
import Derived.Test.YtjkdahpoalnjjaaDoorZCd
import Derived.Test.YtjkdahpoalnjjaaDoorZMsgW
-- STEPWISE
-- WK
set_option linter.unusedVariables false
set_option linter.unusedSimpArgs false
set_option maxRecDepth 10000
namespace Go.Proofs.YtjkdahpoalnjjaaDoor.VL
open Go Go.RowKit Go.Lib

/-- So many, one behind the other, wrong or not. -/
def sMany {α : Type} (f : Sx → α × Sx) : Nat → Sx → List α × Sx
  | 0, s => ([], s)
  | n + 1, s => ((f s).1 :: (sMany f n (f s).2).1, (sMany f n (f s).2).2)
def sOn {α : Type} (out : List α) (p : List α × Sx) : List α × Sx := (out ++ p.1, p.2)
theorem sMany_step {α : Type} (f : Sx → α × Sx) (n : Nat) (s : Sx) (out : List α) : sOn out (sMany f (n + 1) s) = sOn (out ++ [(f s).1]) (sMany f n (f s).2) := by
  simp [sOn, sMany]
theorem sMany_len {α : Type} {f : Sx → α × Sx} (hf : ∀ s, (f s).2.1.length ≤ s.1.length) : ∀ (n : Nat) (s : Sx), (sMany f n s).2.1.length ≤ s.1.length ∧ (sMany f n s).1.length = n
  | 0, s => ⟨Nat.le_refl _, rfl⟩
  | n + 1, s => by
    have h1 := hf s
    have h2 := sMany_len hf n (f s).2
    exact ⟨by simp only [sMany]; omega, by simp only [sMany, List.length_cons, h2.2]⟩
def sDg (s : Sx) : Dg × Sx := (⟨(sNum s).1, (sNum (sNum s).2).1, (sNum (sNum (sNum s).2).2).1⟩, (sNum (sNum (sNum s).2).2).2)
def sEn (s : Sx) : En × Sx := (⟨(sNum s).1, (sNum (sNum s).2).1, (sText (sNum (sNum s).2).2).1⟩, (sText (sNum (sNum s).2).2).2)
def sN4 (s : Sx) : Sx := (sNum (sNum (sNum (sNum s).2).2).2).2
def sDl (s : Sx) : Dl × Sx := (⟨(sNum s).1, (sNum (sNum s).2).1, ⟨(sNum (sNum (sNum s).2).2).1, (sNum (sNum (sNum (sNum s).2).2).2).1, (sMany sEn (sCount 12 (sN4 s)).1.toNat (sCount 12 (sN4 s)).2).1⟩⟩, (sMany sEn (sCount 12 (sN4 s)).1.toNat (sCount 12 (sN4 s)).2).2)
theorem sDg_len (s : Sx) : (sDg s).2.1.length ≤ s.1.length := by
  have h1 := sNum_len s
  have h2 := sNum_len (sNum s).2
  have h3 := sNum_len (sNum (sNum s).2).2
  simp only [sDg]; omega
theorem sEn_len (s : Sx) : (sEn s).2.1.length ≤ s.1.length := by
  have h1 := sNum_len s
  have h2 := sNum_len (sNum s).2
  have h3 := sText_len (sNum (sNum s).2).2
  simp only [sEn]; omega
theorem sN4_len (s : Sx) : (sN4 s).1.length ≤ s.1.length := by
  have h1 := sNum_len s
  have h2 := sNum_len (sNum s).2
  have h3 := sNum_len (sNum (sNum s).2).2
  have h4 := sNum_len (sNum (sNum (sNum s).2).2).2
  simp only [sN4]; omega
theorem sDl_len (s : Sx) : (sDl s).2.1.length ≤ s.1.length ∧ (sDl s).1.s.a.length ≤ 12 := by
  have h1 := sN4_len s
  have h2 := sCount_len 12 (sN4 s)
  have h3 := sMany_len sEn_len (sCount 12 (sN4 s)).1.toNat (sCount 12 (sN4 s)).2
  have h4 := sCount_in (m := 12) (by omega) (sN4 s)
  exact ⟨by simp only [sDl]; omega, by simp only [sDl]; omega⟩

theorem lt_dgF {n : Nat} {l : List Dg} {c : AV} (h : c ∈ dgF l) : Lt n c := by
  unfold dgF flat dgG at h
  rw [List.mem_flatten] at h
  obtain ⟨g, hg, hc⟩ := h
  obtain ⟨x, _, rfl⟩ := List.mem_map.1 hg
  simp only [List.mem_cons, List.not_mem_nil, or_false] at hc
  rcases hc with rfl | rfl | rfl <;> exact .v _
theorem lt_dlF {n : Nat} {l : List Dl} {c : AV} (h : c ∈ dlF l) : Lt n c := by
  unfold dlF flat dlG at h
  rw [List.mem_flatten] at h
  obtain ⟨g, hg, hc⟩ := h
  obtain ⟨x, _, rfl⟩ := List.mem_map.1 hg
  simp only [List.mem_cons, List.not_mem_nil, or_false] at hc
  rcases hc with rfl | rfl | rfl | rfl | rfl <;> first | exact .v _ | exact lt_en _

abbrev zTk : Box := ⟨[vi 0, .emp, .emp], 0, 0, false⟩
abbrev rfS (n : Nat) (k : Int) : List (Nat × AV) := [(0, vi k), (4, .ptr n 0 0), (6, .ptr (n + 1) 0 0), (7, .ptr (n + 2) 0 0)]
/-- How digests stand. -/
abbrev tkB1 (k : Int) (m : Nat) (out : List Dg) : Box := ⟨[vi k, .sl m out.length 0 out.length 3 false, .emp], 0, 0, false⟩
def PieceQ (E : Ent) (σ' : ASt) : AExit → ASt → Prop
  | .normal, σ => Coe E σ σ'
  | _, _ => False
def PieceX (E : Ent) (S : Box → ASt) : AExit → ASt → Prop
  | .normal, σ => ∃ x, (∀ c ∈ x.cells, Lt 0 c) ∧ Coe E σ (S x)
  | _, _ => False

set_option maxHeartbeats 4000000 in
theorem refA {cA : Code} (hc : (Tryd.f11.body).bind (nav [1, 1, 1, 1, 0]) = some cA) (E : Ent) (hn : E.n = 125) (k : Int) (s : Sx) (hl : s.1.length ≤ 1099511627776) :
    AWP Tryd.prog E cA (PieceX E fun x => ⟨rfS E.H.length k, E.H ++ [zTk, rsX (if knows k then (sMany sDg (sCount 8 s).1.toNat (sCount 8 s).2).2 else s), ⟨[vi k, .lst 3 (dgG (if knows k then (sMany sDg (sCount 8 s).1.toNat (sCount 8 s).2).1 else [])), .emp], 0, 0, false⟩, x, ⟨[], 0, 0, true⟩]⟩)
      ⟨rfS E.H.length k, E.H ++ [zTk, rsX s, ⟨[vi k, .emp, .emp], 0, 0, false⟩, ⟨[], 0, 0, true⟩, ⟨[], 0, 0, true⟩]⟩ := by
  injection hc with hc
  subst hc
  have hk0 := fun H => knows_spec k H
  cases hkk : knows k with
  | false =>
    rw [hkk] at hk0
    refine wk (wA hn wT) (wA hk0 (wA DrM.mk wT)) ?_
    refine ⟨⟨[], 0, 0, true⟩, by simp, ?_⟩
    refine Coe.trans (Coe.empLst (k := E.H.length + 2) (j := 1) 3 (appAt _ _ 2 rfl) rfl) ?_
    rw [appSet _ _ 2]
    simp only [List.set_cons_succ, List.set_cons_zero]
    exact Coe.kp
  | true =>
    rw [hkk] at hk0
    have h0 := fun y N => rsCount_at 8 s hl E.H y N
    refine wk (wA hn wT) (wA hk0 (wA h0 (wA DrM.mk wT))) ?_
    clear hk0 h0
    have hc1 := sCount_len 8 s
    have hc2 := sCount_in (m := 8) (by omega) s
    generalize sCount 8 s = cs at hc1 hc2 ⊢
    obtain ⟨c, s0⟩ := cs
    dsimp only at hc1 hc2 ⊢
    try simp only [if_true]
    generalize hR : sMany sDg c.toNat s0 = R
    have hR0 : R = sOn [] (sMany sDg (c.toNat - 0) s0) := by rw [Nat.sub_zero, hR]; rfl
    clear hR
    refine AWP.loop (ι := {p : Nat × Sx × List Dg // (p.1 : Int) ≤ c ∧ p.2.1.1.length ≤ s.1.length ∧ p.2.2.length = p.1 ∧ R = sOn p.2.2 (sMany sDg (c.toNat - p.1) p.2.1)}) (fun p => ⟨[(0, vi k), (4, .ptr E.H.length 0 0), (6, .ptr (E.H.length + 1) 0 0), (7, .ptr (E.H.length + 2) 0 0), (8, vi (c - p.1.1))], E.H ++ [zTk, rsX p.1.2.1, tkB1 k (E.H.length + 3) p.1.2.2, ⟨dgF p.1.2.2, 0, p.1.2.2.length, true⟩, ⟨[], 0, 0, true⟩]⟩) (fun p => c.toNat - p.1.1) ⟨(0, s0, []), by simpa using hc2.1, hc1, rfl, hR0⟩ ?_ ?_
    · dsimp only
      refine Coe.trans (Coe.empAt (k := E.H.length + 2) (j := 1) (m := E.H.length + 3) 3 (appAt _ _ 2 rfl) rfl (appAt _ _ 3 rfl)) ?_
      rw [appSet _ _ 2]
      simp only [List.set_cons_succ, List.set_cons_zero, Int.ofNat_zero, Int.sub_zero, Int.natCast_zero]
      exact Coe.kp
    · rintro ⟨⟨i, cur, out⟩, hi, hcl, ho, he⟩
      dsimp only at hi hcl ho he ⊢
      by_cases hc : (i : Int) < c
      · obtain ⟨m, hm⟩ : ∃ m, c.toNat - i = m + 1 := ⟨c.toNat - i - 1, by omega⟩
        have hm' : m = c.toNat - (i + 1) := by omega
        rw [hm, sMany_step] at he
        have hd := sDg_len cur
        have l1 := sNum_len cur
        have l2 := sNum_len (sNum cur).2
        have g0 := fun y N => rsNum_at cur (by omega) E.H y N
        have g1 := fun y N => rsNum_at (sNum cur).2 (by omega) E.H y N
        have g2 := fun y N => rsNum_at (sNum (sNum cur).2).2 (by omega) E.H y N
        unfold sDg at he hd
        dsimp only at he hd
        generalize sNum cur = a0 at he hd l1 l2 g0 g1 g2
        obtain ⟨dn, s1⟩ := a0
        dsimp only at he hd l1 l2 g0 g1 g2
        generalize sNum s1 = a1 at he hd l2 g1 g2
        obtain ⟨dg, s2⟩ := a1
        dsimp only at he hd l2 g1 g2
        generalize sNum s2 = a2 at he hd g2
        obtain ⟨dv, s3⟩ := a2
        dsimp only at he hd g2
        have hlt : (0 : Int) < c - (i : Int) := by omega
        have ha1 : (out.length + 1) * 24 ≤ 140737488355328 := cap24 (by omega)
        have e2 : dgF out ++ [vi dn, vi dg, vi dv] = dgF (out ++ [⟨dn, dg, dv⟩]) := dgF_snoc out ⟨dn, dg, dv⟩
        have e1 : (out ++ [(⟨dn, dg, dv⟩ : Dg)]).length = out.length + 1 := by simp
        refine wk (wA hn (wA hlt (wA ha1 (wA e2 wT)))) (wA g0 (wA g1 (wA g2 (wA DrM.mk wT)))) ?_
        refine ⟨⟨(i + 1, s3, out ++ [⟨dn, dg, dv⟩]), by dsimp only; omega, by dsimp only; omega, by dsimp only; omega, by dsimp only; rw [← hm']; exact he⟩, ?_, by dsimp only; omega⟩
        dsimp only [tkB1]
        rw [e1, show c - ((i + 1 : Nat) : Int) = c - (i : Int) - 1 by omega]
        refine Coe.cutN (M := [_, _, _, _, _]) (N := [_]) ?_ ?_ ?_
        · simp (disch := omega) only [Keeps, List.mem_cons, List.not_mem_nil, or_false, forall_eq_or_imp, forall_eq, go_sem, Nat.reduceBEq, Nat.reduceLT, Nat.reduceEqDiff, reduceIte, Nat.reduceAdd, Nat.reduceMul, Nat.reduceSub, Nat.reduceLeDiff, Int.reduceToNat, Int.reducePow, Int.reduceLT, Int.reduceEq, Int.reduceNeg, Nat.reducePow, List.reduceReplicate, Int.reduceLE]
        · simp only [List.mem_cons, List.not_mem_nil, or_false, forall_eq_or_imp, forall_eq, List.length_cons, List.length_nil]
          and_intros <;> first | exact .v _ | exact .ptr _ _ _ (by omega)
        · simp only [List.mem_cons, List.not_mem_nil, or_false, forall_eq_or_imp, forall_eq, List.length_cons, List.length_nil]
          and_intros <;> first | exact .v _ | exact .emp | exact lt_bytes _ | exact .sl _ _ _ _ _ _ (by omega) | exact fun c hc => lt_dgF hc | exact fun c hc => nomatch hc
      · obtain hz : c.toNat - i = 0 := by omega
        rw [hz, sMany, sOn, List.append_nil] at he
        dsimp only at he
        subst he
        have hlt : ¬ (0 : Int) < c - (i : Int) := by omega
        refine wk (wA hn (wA hlt wT)) (wA DrM.mk wT) ?_
        refine ⟨⟨dgF out, max 0 (out.length * 3), out.length, true⟩, fun c hc => lt_dgF hc, ?_⟩
        refine Coe.trans (Coe.freezeCell (k := E.H.length + 2) (j := 1) (m := E.H.length + 3) (g := out.length) (n := out.length) (sz := 3) (G := dgG out) (appAt _ _ 2 rfl) rfl (appAt _ _ 3 rfl) rfl (by omega) (by dsimp only; rw [dgF_length]; exact Nat.le_refl _) (chunk_dgF out)) ?_
        rw [appSet _ _ 3, appSet _ _ 2]
        simp only [List.set_cons_succ, List.set_cons_zero]
        exact Coe.kp

end Go.Proofs.YtjkdahpoalnjjaaDoor.VL

/- Layer 20: the reference's Decode: the loops over deltas and their entries. -/
-- STEPWISE
-- WK
set_option linter.unusedVariables false
set_option linter.unusedSimpArgs false
set_option maxRecDepth 10000
namespace Go.Proofs.YtjkdahpoalnjjaaDoor.VL
open Go Go.RowKit Go.Lib

abbrev inS (n : Nat) (r : Int) : List (Nat × AV) := [(4, .ptr n 0 0), (6, .ptr (n + 1) 0 0), (7, .ptr (n + 2) 0 0), (10, vi r), (11, .ptr (n + 5) 0 0)]
set_option maxHeartbeats 4000000 in
theorem refIn {cI : Code} (hc : (Tryd.f11.body).bind (nav [1, 1, 1, 1, 1, 0, 1, 2, 1, 4, 4, 1, 0, 4, 1, 1, 0]) = some cI) (E : Ent) (hn : E.n = 125) (s : Sx) (hl : s.1.length ≤ 1099511627776)
    (b7 x3 x4 : Box) (h7 : ∀ c ∈ b7.cells, Lt (E.H.length + 6) c) (h3 : ∀ c ∈ x3.cells, Lt (E.H.length + 6) c) (h4 : ∀ c ∈ x4.cells, Lt (E.H.length + 6) c) (n f g bt r : Int) :
    AWP Tryd.prog E cI (PieceQ E ⟨inS E.H.length r, E.H ++ [zTk, rsX (sMany sEn (sCount 12 s).1.toNat (sCount 12 s).2).2, b7, x3, x4, ⟨[vi n, vi f, vi g, vi bt, .lst 3 (enG (sMany sEn (sCount 12 s).1.toNat (sCount 12 s).2).1)], 0, 0, false⟩]⟩)
      ⟨inS E.H.length r, E.H ++ [zTk, rsX s, b7, x3, x4, ⟨[vi n, vi f, vi g, vi bt, .emp], 0, 0, false⟩]⟩ := by
  injection hc with hc
  subst hc
  have h0 := fun y N => rsCount_at 12 s hl E.H y N
  refine wk (wA hn wT) (wA h0 (wA DrM.mk wT)) ?_
  clear h0
  have hc1 := sCount_len 12 s
  have hc2 := sCount_in (m := 12) (by omega) s
  generalize sCount 12 s = cs at hc1 hc2 ⊢
  obtain ⟨c, s0⟩ := cs
  dsimp only at hc1 hc2 ⊢
  generalize hR : sMany sEn c.toNat s0 = R
  have hR0 : R = sOn [] (sMany sEn (c.toNat - 0) s0) := by rw [Nat.sub_zero, hR]; rfl
  clear hR
  refine AWP.loop (ι := {p : Nat × Sx × List En // (p.1 : Int) ≤ c ∧ p.2.1.1.length ≤ s.1.length ∧ p.2.2.length = p.1 ∧ R = sOn p.2.2 (sMany sEn (c.toNat - p.1) p.2.1)}) (fun p => ⟨[(4, .ptr E.H.length 0 0), (6, .ptr (E.H.length + 1) 0 0), (7, .ptr (E.H.length + 2) 0 0), (10, vi r), (11, .ptr (E.H.length + 5) 0 0), (12, vi (c - p.1.1))], E.H ++ [zTk, rsX p.1.2.1, b7, x3, x4, ⟨[vi n, vi f, vi g, vi bt, .sl (E.H.length + 6) p.1.2.2.length 0 p.1.2.2.length 3 false], 0, 0, false⟩, ⟨enF p.1.2.2, 0, p.1.2.2.length, true⟩]⟩) (fun p => c.toNat - p.1.1) ⟨(0, s0, []), by simpa using hc2.1, hc1, rfl, hR0⟩ ?_ ?_
  · dsimp only
    refine Coe.trans (Coe.empCell (k := E.H.length + 5) (j := 4) 3 (appAt _ _ 5 rfl) rfl) ?_
    rw [List.append_assoc, appSet _ _ 5]
    simp only [List.length_append, List.length_cons, List.length_nil, Nat.reduceAdd, List.cons_append, List.nil_append, List.set_cons_succ, List.set_cons_zero, Int.ofNat_zero, Int.sub_zero, Int.natCast_zero]
    exact Coe.kp
  · rintro ⟨⟨i, cur, out⟩, hi, hcl, ho, he⟩
    dsimp only at hi hcl ho he ⊢
    by_cases hc : (i : Int) < c
    · obtain ⟨m, hm⟩ : ∃ m, c.toNat - i = m + 1 := ⟨c.toNat - i - 1, by omega⟩
      have hm' : m = c.toNat - (i + 1) := by omega
      rw [hm, sMany_step] at he
      have hd := sEn_len cur
      have l1 := sNum_len cur
      have l2 := sNum_len (sNum cur).2
      have g0 := fun y N => rsNum_at cur (by omega) E.H y N
      have g1 := fun y N => rsNum_at (sNum cur).2 (by omega) E.H y N
      have g2 := fun y N => rsText_at (sNum (sNum cur).2).2 (by omega) E.H y N
      unfold sEn at he hd
      dsimp only at he hd
      generalize sNum cur = a0 at he hd l1 l2 g0 g1 g2
      obtain ⟨dn, s1⟩ := a0
      dsimp only at he hd l1 l2 g0 g1 g2
      generalize sNum s1 = a1 at he hd l2 g1 g2
      obtain ⟨dg, s2⟩ := a1
      dsimp only at he hd l2 g1 g2
      generalize sText s2 = a2 at he hd g2
      obtain ⟨dv, s3⟩ := a2
      dsimp only at he hd g2
      have hlt : (0 : Int) < c - (i : Int) := by omega
      have ha1 : (out.length + 1) * 32 ≤ 140737488355328 := cap32 (by omega)
      have e2 : enF out ++ [vi dn, vi dg, vs dv] = enF (out ++ [⟨dn, dg, dv⟩]) := enF_snoc out ⟨dn, dg, dv⟩
      have e1 : (out ++ [(⟨dn, dg, dv⟩ : En)]).length = out.length + 1 := by simp
      refine wk (wA hn (wA hlt (wA ha1 (wA e2 wT)))) (wA g0 (wA g1 (wA g2 (wA DrM.mk wT)))) ?_
      refine ⟨⟨(i + 1, s3, out ++ [⟨dn, dg, dv⟩]), by dsimp only; omega, by dsimp only; omega, by dsimp only; omega, by dsimp only; rw [← hm']; exact he⟩, ?_, by dsimp only; omega⟩
      dsimp only
      rw [e1, show c - ((i + 1 : Nat) : Int) = c - (i : Int) - 1 by omega]
      refine Coe.cutN (M := [_, _, _, _, _, _, _]) (N := [_]) ?_ ?_ ?_
      · simp (disch := omega) only [Keeps, List.mem_cons, List.not_mem_nil, or_false, forall_eq_or_imp, forall_eq, go_sem, Nat.reduceBEq, Nat.reduceLT, Nat.reduceEqDiff, reduceIte, Nat.reduceAdd, Nat.reduceMul, Nat.reduceSub, Nat.reduceLeDiff, Int.reduceToNat, Int.reducePow, Int.reduceLT, Int.reduceEq, Int.reduceNeg, Nat.reducePow, List.reduceReplicate, Int.reduceLE]
      · simp only [List.mem_cons, List.not_mem_nil, or_false, forall_eq_or_imp, forall_eq, List.length_cons, List.length_nil]
        and_intros <;> first | exact .v _ | exact .ptr _ _ _ (by omega)
      · simp only [List.mem_cons, List.not_mem_nil, or_false, forall_eq_or_imp, forall_eq, List.length_cons, List.length_nil]
        and_intros <;> first | exact .v _ | exact .emp | exact lt_bytes _ | exact .sl _ _ _ _ _ _ (by omega) | exact fun c hc => lt_enC' hc | exact fun c hc => (h7 c hc).mono (by omega) | exact fun c hc => (h3 c hc).mono (by omega) | exact fun c hc => (h4 c hc).mono (by omega)
    · obtain hz : c.toNat - i = 0 := by omega
      rw [hz, sMany, sOn, List.append_nil] at he
      dsimp only at he
      subst he
      have hlt : ¬ (0 : Int) < c - (i : Int) := by omega
      refine wk (wA hn (wA hlt wT)) (wA DrM.mk wT) ?_
      refine Coe.trans (Coe.freezeCell (k := E.H.length + 5) (j := 4) (m := E.H.length + 6) (g := out.length) (n := out.length) (sz := 3) (G := enG out) (appAt _ _ 5 rfl) rfl (appAt _ _ 6 rfl) rfl (by omega) (by dsimp only; rw [enF_length]; exact Nat.le_refl _) (chunk_enF out)) ?_
      rw [appSet _ _ 6, appSet _ _ 5]
      simp only [List.set_cons_succ, List.set_cons_zero]
      refine Coe.cutN (M := [_, _, _, _, _, _]) (N := [_]) ?_ ?_ ?_
      · simp (disch := omega) only [Keeps, List.mem_cons, List.not_mem_nil, or_false, forall_eq_or_imp, forall_eq, go_sem, Nat.reduceBEq, Nat.reduceLT, Nat.reduceEqDiff, reduceIte, Nat.reduceAdd, Nat.reduceMul, Nat.reduceSub, Nat.reduceLeDiff, Int.reduceToNat, Int.reducePow, Int.reduceLT, Int.reduceEq, Int.reduceNeg, Nat.reducePow, List.reduceReplicate, Int.reduceLE]
      · simp only [List.mem_cons, List.not_mem_nil, or_false, forall_eq_or_imp, forall_eq, List.length_cons, List.length_nil]
        and_intros <;> first | exact .v _ | exact .ptr _ _ _ (by omega)
      · simp only [List.mem_cons, List.not_mem_nil, or_false, forall_eq_or_imp, forall_eq, List.length_cons, List.length_nil]
        and_intros <;> first | exact .v _ | exact .emp | exact lt_bytes _ | exact lt_en _ | exact fun c hc => (h7 c hc).mono (by omega) | exact fun c hc => (h3 c hc).mono (by omega) | exact fun c hc => (h4 c hc).mono (by omega)

end Go.Proofs.YtjkdahpoalnjjaaDoor.VL

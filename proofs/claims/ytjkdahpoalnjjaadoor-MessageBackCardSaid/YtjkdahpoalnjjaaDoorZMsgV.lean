/- Layer 20: the program's Decode and Open. -/
import Derived.Test.YtjkdahpoalnjjaaDoorZCd
import Derived.Test.YtjkdahpoalnjjaaDoorZMsgU
import Derived.Test.YtjkdahpoalnjjaaDoorZMc
-- STEPWISE
-- WK
-- HOLE 7 0 [(.same, []), (.same, [0]), (.same, [0]), (.wr 0, []), (.same, []), (.same, [])]
set_option linter.unusedVariables false
set_option linter.unusedSimpArgs false
set_option maxRecDepth 10000
namespace Go.Proofs.YtjkdahpoalnjjaaDoor.VL
open Go Go.RowKit Go.Lib

theorem holM_MsgV_7 : HolM 7 0 [(.same, []), (.same, [0]), (.same, [0]), (.wr 0, []), (.same, []), (.same, [])] := ⟨⟩

/-- A payload's talk, or why there is none. -/
def dec20 (k : Int) (b : List UInt8) : Tk × Int := if kOk k then ((decT k (knows k) (tells k) b).1, (decT k (knows k) (tells k) b).2.1) else (tkZ, 1)
theorem lt_tkZ (e : Int) {n : Nat} : Lt n (.tup [.agg [vi 0, .emp, .emp], vi e]) := .tup _ fun i c hi => by
  rcases i with _ | _ | i <;> simp at hi <;> subst hi
  · exact .agg _ fun i c hi => by rcases i with _ | _ | _ | i <;> simp at hi <;> subst hi <;> first | exact .v _ | exact .emp
  · exact .v _
theorem decode20_spec (k : Int) (bs : List UInt8) (hl : bs.length ≤ 1099511627776) (H : List Box) : ASpec Tryd.prog 10 [vi k, vB bs] H (Gives (tkR (dec20 k bs).1 (dec20 k bs).2) H) := by
  have h0 := fun H => of_spec k H
  unfold dec20
  cases hk : kOk k with
  | false =>
    rw [hk, Bool.false_and, Bool.false_and] at h0
    refine ASpec.enter Tryd.func10 rfl (fun a w => Tryd.call10 a w) Tryd.ntmps10 Tryd.results10 fun base w β hI => ?_
    refine wk wT (wA h0 (wA holM_MsgV_7 (wA DrM.mk wT))) ?_
    refine wkEnd wT ?_
    exact Fin.weak (fun _ _ _ h => rep_tkZ2 h) (Fin.cut (lt_tk2 tkZ 1) ⟨rfl, rfl⟩)
  | true =>
    rw [hk, Bool.true_and, Bool.true_and] at h0
    have h1 : ∀ y1 y2 : Box, ASpec Tryd.prog 26 [.ptr (H.length + 2) 0 0, vi k, .agg [vb (knows k), vb (tells k)]] (H ++ [y1, y2, mrX bs]) (fun o H' => o = .ret (tkR (decT k (knows k) (tells k) bs).1 (decT k (knows k) (tells k) bs).2.1) ∧ H' = H ++ [y1, y2, mrX (decT k (knows k) (tells k) bs).2.2]) := fun y1 y2 => by
      have h := talk_spec (H ++ [y1, y2]) k (knows k) (tells k) bs hl
      unfold TkK at h
      simp only [List.length_append, List.length_cons, List.length_nil, Nat.reduceAdd, List.append_assoc, List.cons_append, List.nil_append] at h
      exact h
    rw [if_pos rfl]
    generalize decT k (knows k) (tells k) bs = x at h1 ⊢
    obtain ⟨⟨k', d, l⟩, e, r⟩ := x
    dsimp only at h1 ⊢
    refine ASpec.enter Tryd.func10 rfl (fun a w => Tryd.call10 a w) Tryd.ntmps10 Tryd.results10 fun base w β hI => ?_
    refine wk wT (wA h0 (wA h1 (wA holM_MsgV_7 (wA DrM.mk wT)))) ?_
    refine wkEnd wT ?_
    exact Fin.cut (lt_tk2 ⟨k', d, l⟩ e) ⟨rfl, rfl⟩

/-- A frame's talk, whom it is from, or why there is none. -/
def open20 (b cl : List UInt8) : Tk × Int × Int :=
  if (frD b cl).2 ≠ 0 then (tkZ, 0, (frD b cl).2)
  else if (dec20 (frD b cl).1.k (frD b cl).1.p).2 ≠ 0 then (tkZ, 0, (dec20 (frD b cl).1.k (frD b cl).1.p).2)
  else ((dec20 (frD b cl).1.k (frD b cl).1.p).1, (frD b cl).1.n, 0)
abbrev tkR3 (x : Tk × Int × Int) : AV := .tup [.agg (tkC x.1), vi x.2.1, vi x.2.2]
theorem lt_tk3 {n : Nat} (x : Tk × Int × Int) : Lt n (tkR3 x) := .tup _ fun i c hi => by
  rcases i with _ | _ | _ | i <;> simp at hi <;> subst hi <;> first | exact .v _ | exact lt_tkA _
theorem rep_tkZ3 {w : World} {H : List Box} {β : Pl} {a b c : AV} {x : Value} (h : Rep w H β (.tup [.agg [a, .emp, .emp], b, c]) x) : Rep w H β (.tup [.agg [a, .lst 3 [], .lst 5 []], b, c]) x := by
  cases h with
  | tup _ vs hl h =>
    refine .tup _ vs (by simpa using hl) fun i c y hc hy => ?_
    rcases i with _ | _ | _ | i
    · simp at hc; subst hc; exact rep_tkZ (h 0 _ y rfl hy)
    · simp at hc; subst hc; exact h 1 _ y rfl hy
    · simp at hc; subst hc; exact h 2 _ y rfl hy
    · simp at hc
theorem frD_len20 (b cl : List UInt8) (hl : b.length ≤ 1099511627776) : (frD b cl).1.p.length ≤ 1099511627776 := by
  have h0 := opn_facts b
  unfold frD
  split
  · simp [Fr0]
  · unfold frD1
    have hd : ((opn b).1.drop 3).length ≤ (opn b).1.length := by simp
    generalize (opn b).1.drop 3 = q at hd ⊢
    have f1 : (tk q).2.1.length ≤ q.length := (tkGo_facts 9 0 0 q).1
    have f2 := tt_facts (tk q).2.1 30
    have f3 : (tk (tt (tk q).2.1 30).2.1).2.1.length ≤ (tt (tk q).2.1 30).2.1.length := (tkGo_facts 9 0 0 _).1
    have f4 := tt_facts (tk (tt (tk q).2.1 30).2.1).2.1 30000
    split
    · split
      · simp [Fr0]
      split
      · simp [Fr0]
      split
      · simp [Fr0]
      split
      · simp [Fr0]
      split
      · simp [Fr0]
      split
      · simp [Fr0]
      dsimp only
      omega
    · simp [Fr0]
set_option maxHeartbeats 2000000 in
theorem open20_spec (bs cl : List UInt8) (hl : bs.length ≤ 1099511627776) (H : List Box) : ASpec Tryd.prog 12 [vB bs, vs cl] H (Gives (tkR3 (open20 bs cl)) H) := by
  have h0 := fun H => decode_spec bs cl hl H
  have hpl := frD_len20 bs cl hl
  unfold open20
  generalize frD bs cl = x at h0 hpl ⊢
  obtain ⟨⟨k, c, n, p⟩, e⟩ := x
  unfold frDV at h0
  dsimp only at h0 hpl ⊢
  by_cases he : e = 0
  · subst he
    rw [if_neg (fun h : (0 : Int) ≠ 0 => h rfl)]
    have h1 := fun H => decode20_spec k p hpl H
    generalize dec20 k p = y at h1 ⊢
    obtain ⟨⟨k', d, l⟩, e⟩ := y
    dsimp only at h1 ⊢
    by_cases he : e = 0
    · subst he
      rw [if_neg (fun h : (0 : Int) ≠ 0 => h rfl)]
      refine ASpec.enter Tryd.func12 rfl (fun a w => Tryd.call12 a w) Tryd.ntmps12 Tryd.results12 fun base w β hI => ?_
      refine wk wT (wA h0 (wA h1 (wA holM_MsgV_7 (wA DrM.mk wT)))) ?_
      refine wkEnd wT ?_
      exact Fin.cut (lt_tk3 (⟨k', d, l⟩, n, 0)) ⟨rfl, rfl⟩
    · rw [if_pos he]
      refine ASpec.enter Tryd.func12 rfl (fun a w => Tryd.call12 a w) Tryd.ntmps12 Tryd.results12 fun base w β hI => ?_
      refine wk (wA he wT) (wA h0 (wA h1 (wA holM_MsgV_7 (wA DrM.mk wT)))) ?_
      refine wkEnd wT ?_
      exact Fin.weak (fun _ _ _ h => rep_tkZ3 h) (Fin.cut (lt_tk3 (tkZ, 0, e)) ⟨rfl, rfl⟩)
  · rw [if_pos he]
    refine ASpec.enter Tryd.func12 rfl (fun a w => Tryd.call12 a w) Tryd.ntmps12 Tryd.results12 fun base w β hI => ?_
    refine wk (wA he wT) (wA h0 (wA holM_MsgV_7 (wA DrM.mk wT))) ?_
    refine wkEnd wT ?_
    exact Fin.weak (fun _ _ _ h => rep_tkZ3 h) (Fin.cut (lt_tk3 (tkZ, 0, e)) ⟨rfl, rfl⟩)

end Go.Proofs.YtjkdahpoalnjjaaDoor.VL

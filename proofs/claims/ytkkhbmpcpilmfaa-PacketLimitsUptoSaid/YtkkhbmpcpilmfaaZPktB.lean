/- Layer 17: whether all of a packet's lists may be. -/
import Derived.Test.YtkkhbmpcpilmfaaZCd
import Derived.Test.YtkkhbmpcpilmfaaZPa
-- STEPWISE
-- WK
set_option linter.unusedVariables false
set_option linter.unusedSimpArgs false
set_option maxRecDepth 10000
namespace Go.Proofs.Ytkkhbmpcpilmfaa.VL
open Go Go.RowKit Go.Lib

/-- 'Qn': a closure that says which may not be. -/
theorem notQn_spec (q : Qn) (hq : q.n.length ≤ 9223372036854775807) (b : Nat) (H : List Box) (hb : H[b]? = some ⟨[.fn 48 []], 0, 0, false⟩) :
    ASpec Try.prog 64 [.agg (qnC q), .ptr b 0 0] H (Gives (vb (!qOk q)) H) := by
  have hs := fun H => question_spec q hq H
  have hbl : b < H.length := (List.getElem?_eq_some_iff.1 hb).1
  have hb2 : ∀ N : List Box, (H ++ N)[b]? = some ⟨[.fn 48 []], 0, 0, false⟩ := fun N => by rw [List.getElem?_append_left hbl]; exact hb
  refine ASpec.enter Try.func64 rfl (fun a w => Try.call64 a w) Try.ntmps64 Try.results64 fun base w β hI => ?_
  refine wk (wA hb2 wT) (wA hs wT) ?_
  refine wkEnd wT ?_
  exact Fin.cut (.v _) ⟨rfl, rfl⟩
theorem ixQn_spec (l : List Qn) (hl : l.length ≤ 9223372036854775807) (hq : ∀ q ∈ l, q.n.length ≤ 9223372036854775807) (b : Nat) (H : List Box) (hb : H[b]? = some ⟨[.fn 48 []], 0, 0, false⟩) :
    ASpec Try.prog 75 [.lst 3 (qnG l), .fn 64 [.ptr b 0 0]] H (Gives (vi (fstIx (fun q => !qOk q) l 0)) H) := by
  refine ASpec.enter Try.func75 rfl (fun a w => Try.call75 a w) Try.ntmps75 Try.results75 fun base w β hI => ?_
  refine wk wT wT ?_
  refine AWP.loop (ι := {i : Nat // i ≤ l.length ∧ fstIx (fun q => !qOk q) l 0 = fstIx (fun q => !qOk q) (l.drop i) i})
    (fun p => ⟨[(0, .lst 3 (qnG l)), (1, .fn 64 [.ptr b 0 0]), (7, vi l.length), (8, vi p.1)], H⟩) (fun p => l.length - p.1) ⟨0, Nat.zero_le _, by rw [List.drop_zero]⟩ ?_ ?_
  · dsimp only
    exact Coe.kp
  · rintro ⟨i, hi, he⟩
    dsimp only
    by_cases hc : (i : Int) < (l.length : Int)
    · have hg : l[i]? = some l[i] := List.getElem?_eq_getElem (by omega)
      have hm := hq l[i] (List.getElem_mem _)
      generalize l[i] = q at hg hm
      have hs := fun H hb => notQn_spec q hm b H hb
      rw [fstIx_drop _ hg] at he
      generalize qOk q = x at hs he
      obtain ⟨n, t, c⟩ := q
      dsimp only at hs hm
      have hs : ∀ H : List Box, H[b]? = some ⟨[.fn 48 []], 0, 0, false⟩ → ASpec Try.prog 64 [.agg [vs n, vi t, vi c], .ptr b 0 0] H (Gives (vb (!x)) H) := hs
      cases x with
      | true =>
        refine wk (wA hc (wA hg wT)) (wA (hs _ hb) wT) ?_
        refine ⟨⟨i + 1, by omega, by rw [he]; rfl⟩, ?_, by dsimp only; omega⟩
        dsimp only
        exact Coe.kp
      | false =>
        have he2 : fstIx (fun q => !qOk q) l 0 = (i : Int) := by rw [he]; rfl
        rw [he2]
        refine wk (wA hc (wA hg wT)) (wA (hs _ hb) wT) ?_
        refine wkEnd wT ?_
        exact Fin.same ⟨rfl, rfl⟩
    · rw [List.drop_of_length_le (by omega)] at he
      rw [he]
      refine wk (wA hc wT) wT ?_
      refine wkEnd wT ?_
      exact Fin.same ⟨rfl, rfl⟩
theorem hasQn_spec (l : List Qn) (hl : l.length ≤ 9223372036854775807) (hq : ∀ q ∈ l, q.n.length ≤ 9223372036854775807) (b : Nat) (H : List Box) (hb : H[b]? = some ⟨[.fn 48 []], 0, 0, false⟩) :
    ASpec Try.prog 63 [.lst 3 (qnG l), .fn 64 [.ptr b 0 0]] H (Gives (vb (l.any fun q => !qOk q)) H) := by
  have hs := fun H hb => ixQn_spec l hl hq b H hb
  have ha := fstIx_any (fun q => !qOk q) l 0
  generalize fstIx (fun q => !qOk q) l 0 = x at hs ha
  rw [← ha]
  refine ASpec.enter Try.func63 rfl (fun a w => Try.call63 a w) Try.ntmps63 Try.results63 fun base w β hI => ?_
  refine wk wT (wA (hs _ hb) wT) ?_
  refine wkEnd wT ?_
  exact Fin.same ⟨rfl, rfl⟩
theorem allQn_spec (l : List Qn) (hl : l.length ≤ 9223372036854775807) (hq : ∀ q ∈ l, q.n.length ≤ 9223372036854775807) (H : List Box) :
    ASpec Try.prog 47 [.lst 3 (qnG l), .fn 48 []] H (Gives (vb (qsOk l)) H) := by
  have hs := fun (N : List Box) => hasQn_spec l hl hq H.length (H ++ (⟨[.fn 48 []], 0, 0, false⟩ :: N)) (by simp)
  unfold qsOk
  rw [← any_not]
  generalize (l.any fun q => !qOk q) = x at hs
  have hdl : decide (l.length ≤ 100) = decide ((l.length : Int) ≤ 100) := decide_eq_decide.2 (by omega)
  rw [hdl]
  by_cases h : (l.length : Int) ≤ 100
  · refine ASpec.enter Try.func47 rfl (fun a w => Try.call47 a w) Try.ntmps47 Try.results47 fun base w β hI => ?_
    refine wk (wA h wT) (wA (hs []) wT) ?_
    refine wkEnd wT ?_
    exact Fin.cut (.v _) ⟨by simp [h], rfl⟩
  · refine ASpec.enter Try.func47 rfl (fun a w => Try.call47 a w) Try.ntmps47 Try.results47 fun base w β hI => ?_
    refine wk (wA h wT) wT ?_
    refine wkEnd wT ?_
    exact Fin.cut (.v _) ⟨by simp [h], rfl⟩

/-- 'Rr': a closure that says which may not be. -/
theorem notRr_spec (q : Rr) (hq : q.n.length ≤ 9223372036854775807 ∧ q.d.length ≤ 9223372036854775807) (b : Nat) (H : List Box) (hb : H[b]? = some ⟨[.fn 50 []], 0, 0, false⟩) :
    ASpec Try.prog 67 [.agg (rrC q), .ptr b 0 0] H (Gives (vb (!rOk q)) H) := by
  have hs := fun H => record_spec q hq.1 hq.2 H
  have hbl : b < H.length := (List.getElem?_eq_some_iff.1 hb).1
  have hb2 : ∀ N : List Box, (H ++ N)[b]? = some ⟨[.fn 50 []], 0, 0, false⟩ := fun N => by rw [List.getElem?_append_left hbl]; exact hb
  refine ASpec.enter Try.func67 rfl (fun a w => Try.call67 a w) Try.ntmps67 Try.results67 fun base w β hI => ?_
  refine wk (wA hb2 wT) (wA hs wT) ?_
  refine wkEnd wT ?_
  exact Fin.cut (.v _) ⟨rfl, rfl⟩
theorem ixRr_spec (l : List Rr) (hl : l.length ≤ 9223372036854775807) (hq : ∀ q ∈ l, q.n.length ≤ 9223372036854775807 ∧ q.d.length ≤ 9223372036854775807) (b : Nat) (H : List Box) (hb : H[b]? = some ⟨[.fn 50 []], 0, 0, false⟩) :
    ASpec Try.prog 77 [.lst 5 (rrG l), .fn 67 [.ptr b 0 0]] H (Gives (vi (fstIx (fun q => !rOk q) l 0)) H) := by
  refine ASpec.enter Try.func77 rfl (fun a w => Try.call77 a w) Try.ntmps77 Try.results77 fun base w β hI => ?_
  refine wk wT wT ?_
  refine AWP.loop (ι := {i : Nat // i ≤ l.length ∧ fstIx (fun q => !rOk q) l 0 = fstIx (fun q => !rOk q) (l.drop i) i})
    (fun p => ⟨[(0, .lst 5 (rrG l)), (1, .fn 67 [.ptr b 0 0]), (7, vi l.length), (8, vi p.1)], H⟩) (fun p => l.length - p.1) ⟨0, Nat.zero_le _, by rw [List.drop_zero]⟩ ?_ ?_
  · dsimp only
    exact Coe.kp
  · rintro ⟨i, hi, he⟩
    dsimp only
    by_cases hc : (i : Int) < (l.length : Int)
    · have hg : l[i]? = some l[i] := List.getElem?_eq_getElem (by omega)
      have hm := hq l[i] (List.getElem_mem _)
      generalize l[i] = q at hg hm
      have hs := fun H hb => notRr_spec q hm b H hb
      rw [fstIx_drop _ hg] at he
      generalize rOk q = x at hs he
      obtain ⟨n, t, c, tl, d⟩ := q
      dsimp only at hs hm
      have hs : ∀ H : List Box, H[b]? = some ⟨[.fn 50 []], 0, 0, false⟩ → ASpec Try.prog 67 [.agg [vs n, vi t, vi c, vi tl, vs d], .ptr b 0 0] H (Gives (vb (!x)) H) := hs
      cases x with
      | true =>
        refine wk (wA hc (wA hg wT)) (wA (hs _ hb) wT) ?_
        refine ⟨⟨i + 1, by omega, by rw [he]; rfl⟩, ?_, by dsimp only; omega⟩
        dsimp only
        exact Coe.kp
      | false =>
        have he2 : fstIx (fun q => !rOk q) l 0 = (i : Int) := by rw [he]; rfl
        rw [he2]
        refine wk (wA hc (wA hg wT)) (wA (hs _ hb) wT) ?_
        refine wkEnd wT ?_
        exact Fin.same ⟨rfl, rfl⟩
    · rw [List.drop_of_length_le (by omega)] at he
      rw [he]
      refine wk (wA hc wT) wT ?_
      refine wkEnd wT ?_
      exact Fin.same ⟨rfl, rfl⟩
theorem hasRr_spec (l : List Rr) (hl : l.length ≤ 9223372036854775807) (hq : ∀ q ∈ l, q.n.length ≤ 9223372036854775807 ∧ q.d.length ≤ 9223372036854775807) (b : Nat) (H : List Box) (hb : H[b]? = some ⟨[.fn 50 []], 0, 0, false⟩) :
    ASpec Try.prog 66 [.lst 5 (rrG l), .fn 67 [.ptr b 0 0]] H (Gives (vb (l.any fun q => !rOk q)) H) := by
  have hs := fun H hb => ixRr_spec l hl hq b H hb
  have ha := fstIx_any (fun q => !rOk q) l 0
  generalize fstIx (fun q => !rOk q) l 0 = x at hs ha
  rw [← ha]
  refine ASpec.enter Try.func66 rfl (fun a w => Try.call66 a w) Try.ntmps66 Try.results66 fun base w β hI => ?_
  refine wk wT (wA (hs _ hb) wT) ?_
  refine wkEnd wT ?_
  exact Fin.same ⟨rfl, rfl⟩
theorem allRr_spec (l : List Rr) (hl : l.length ≤ 9223372036854775807) (hq : ∀ q ∈ l, q.n.length ≤ 9223372036854775807 ∧ q.d.length ≤ 9223372036854775807) (H : List Box) :
    ASpec Try.prog 49 [.lst 5 (rrG l), .fn 50 []] H (Gives (vb (rsOk l)) H) := by
  have hs := fun (N : List Box) => hasRr_spec l hl hq H.length (H ++ (⟨[.fn 50 []], 0, 0, false⟩ :: N)) (by simp)
  unfold rsOk
  rw [← any_not]
  generalize (l.any fun q => !rOk q) = x at hs
  have hdl : decide (l.length ≤ 100) = decide ((l.length : Int) ≤ 100) := decide_eq_decide.2 (by omega)
  rw [hdl]
  by_cases h : (l.length : Int) ≤ 100
  · refine ASpec.enter Try.func49 rfl (fun a w => Try.call49 a w) Try.ntmps49 Try.results49 fun base w β hI => ?_
    refine wk (wA h wT) (wA (hs []) wT) ?_
    refine wkEnd wT ?_
    exact Fin.cut (.v _) ⟨by simp [h], rfl⟩
  · refine ASpec.enter Try.func49 rfl (fun a w => Try.call49 a w) Try.ntmps49 Try.results49 fun base w β hI => ?_
    refine wk (wA h wT) wT ?_
    refine wkEnd wT ?_
    exact Fin.cut (.v _) ⟨by simp [h], rfl⟩

end Go.Proofs.Ytkkhbmpcpilmfaa.VL

/- Layer 17: a record's bytes behind others. -/
import Derived.Test.YtnlmdeeadldgmaaGreatDoorZVLWalk
import Derived.Test.YtnlmdeeadldgmaaGreatDoorZG33
import Derived.Test.YtnlmdeeadldgmaaGreatDoorZG28
import Derived.Test.YtnlmdeeadldgmaaGreatDoorZG16
import Derived.Test.YtnlmdeeadldgmaaGreatDoorZG22
-- STEPWISE
-- WK
-- HWR
-- HOLE 4 0 [(.same, []), (.same, []), (.same, []), (.same, []), (.same, []), (.same, []), (.same, []), (.same, []), (.same, []), (.same, []), (.same, []), (.same, []), (.same, []), (.same, []), (.wr 2, []), (.same, [2]), (.same, [2]), (.wr 2, []), (.same, [])]
set_option linter.unusedVariables false
set_option linter.unusedSimpArgs false
set_option maxRecDepth 10000
namespace Go.Proofs.YtnlmdeeadldgmaaGreatDoor.VL
open Go Go.RowKit Go.Lib

theorem holM_PktE_4 : HolM 4 0 [(.same, []), (.same, []), (.same, []), (.same, []), (.same, []), (.same, []), (.same, []), (.same, []), (.same, []), (.same, []), (.same, []), (.same, []), (.same, []), (.same, []), (.wr 2, []), (.same, [2]), (.same, [2]), (.wr 2, []), (.same, [])] := ⟨⟩

theorem two_at2 (g : Nat) (bs : List UInt8) (l : List Int) (hbs : bs.length ≤ 1099511627776) (hl : l.length ≤ 1048576) (H : List Box) (x0 x1 : Box) :
    ASpec Tryz.prog 110 [.sl (H.length + 2) g 0 bs.length 1 false, vI l] (H ++ [x0, x1, ⟨bytesC bs, 0, g, true⟩]) (fun o H' => o = .ret (.sl (H.length + 2) (g + l.length) 0 (bs ++ twoB l).length 1 false) ∧ H' = H ++ [x0, x1, ⟨bytesC (bs ++ twoB l), 0, g + l.length, true⟩]) := by
  have h := two_spec (H.length + 2) g bs l hbs hl (H ++ [x0, x1, ⟨bytesC bs, 0, g, true⟩]) (by rw [List.getElem?_append_right (by omega)]; simp)
  have e : (H ++ [x0, x1, ⟨bytesC bs, 0, g, true⟩]).set (H.length + 2) ⟨bytesC (bs ++ twoB l), 0, g + l.length, true⟩ = H ++ [x0, x1, ⟨bytesC (bs ++ twoB l), 0, g + l.length, true⟩] := by
    rw [List.set_append_right _ _ (by omega)]
    simp
  rw [e] at h
  exact h

/-- Whether a record's name is the first question's. -/
def isQ (p : Pk) (r : Rr) : Bool := match p.q with
  | [] => false
  | q :: _ => sameN r.n q.n
/-- A record's name, as it is laid. -/
def nmB (p : Pk) (r : Rr) : List UInt8 := if isQ p r then [192, 12] else r.n
def rrN (r : Rr) : List Int := [r.t, r.c, r.l / 65536, r.l, r.d.length]
def rrB (p : Pk) (r : Rr) : List UInt8 := nmB p r ++ twoB (rrN r) ++ r.d

set_option maxHeartbeats 4000000 in
theorem lay_spec (b g : Nat) (bs : List UInt8) (p : Pk) (r : Rr) (hbs : bs.length ≤ 1073741824) (hn0 : 0 < r.n.length) (hn : r.n.length ≤ 1048576) (hd : r.d.length ≤ 1048576) (hq : ∀ q ∈ p.q, q.n.length ≤ 9223372036854775807)
    (H : List Box) {ro : Nat} {gr : Bool} (hb : H[b]? = some ⟨bytesC bs, ro, g, gr⟩) :
    ASpec Tryz.prog 112 [.sl b g 0 bs.length 1 true, .agg (pkC p), .agg (rrC r)] H (Owns (bs ++ rrB p r) H) := by
  have hbl : b < H.length := (List.getElem?_eq_some_iff.1 hb).1
  have hbN : ∀ N : List Box, (H ++ N)[b]? = some ⟨bytesC bs, ro, g, gr⟩ := fun N => by rw [List.getElem?_append_left hbl]; exact hb
  have htk : List.take bs.length (bytesC bs) = bytesC bs := List.take_of_length_le (by rw [bytesC_length]; exact Nat.le_refl _)
  obtain ⟨id, fl, q, a, u, m⟩ := p
  obtain ⟨n, t, c, tl, d⟩ := r
  dsimp only at hn0 hn hd hq
  generalize htwE : twoB [t, c, tl / 65536, tl, d.length] = tw
  have htwl : tw.length = 10 := by rw [← htwE, twoB_length]; rfl
  have htw : ∀ (x0 x1 : Box) (bs' : List UInt8), bs'.length ≤ 1099511627776 → ASpec Tryz.prog 110 [.sl (H.length + 2) 0 0 bs'.length 1 false, .lst 1 [[vi t], [vi c], [vi (tl / 65536)], [vi tl], [vi (d.length : Int)]]] (H ++ [x0, x1, ⟨bytesC bs', 0, 0, true⟩])
      (fun o H' => o = .ret (.sl (H.length + 2) 5 0 (bs' ++ tw).length 1 false) ∧ H' = H ++ [x0, x1, ⟨bytesC (bs' ++ tw), 0, 5, true⟩]) := fun x0 x1 bs' hbs' => by
    have h := two_at2 0 bs' [t, c, tl / 65536, tl, d.length] hbs' (by simp) H x0 x1
    rw [htwE] at h
    exact h
  have hfd : tl.fdiv 65536 = tl / 65536 := Int.fdiv_eq_ediv_of_nonneg _ (by decide)
  cases q with
  | nil =>
    have hr : rrB ⟨id, fl, [], a, u, m⟩ ⟨n, t, c, tl, d⟩ = n ++ tw ++ d := by rw [← htwE]; rfl
    rw [hr]
    have e1 : bytesC bs ++ bytesC n = bytesC (bs ++ n) := by simp [bytesC]
    have e2 : (bs ++ n).length = bs.length + n.length := List.length_append
    have hw := fun x0 x1 => htw x0 x1 (bs ++ n) (by omega)
    have e3 : (bs ++ n ++ tw).length = bs.length + n.length + 10 := by rw [List.length_append, e2, htwl]
    have e4 : bytesC (bs ++ n ++ tw) ++ bytesC d = bytesC (bs ++ (n ++ tw ++ d)) := by simp [bytesC]
    refine ASpec.enter Tryz.func112 rfl (fun a w => Tryz.call112 a w) Tryz.ntmps112 Tryz.results112 fun base w β hI => ?_
    refine wk (wA hbN (wA htk (wA hfd (wA e1 (wA (Eq.symm e2) (wA e4 wT)))))) (wA hw (wA holM_PktE_4 (wA DrM.mk wT))) ?_
    have e5 : (bs ++ n ++ tw).length + d.length = (bs ++ (n ++ tw ++ d)).length := by simp only [List.length_append]; omega
    refine wkEnd wT ?_
    rw [e5]
    exact Fin.own (i := 2) rfl rfl (bytesC_lt _) ⟨rfl, rfl⟩
  | cons q0 q =>
    have hq0 := hq q0 (by simp)
    have hs := fun H => labSame_spec n q0.n (by omega) hq0 H
    obtain ⟨qn, qt, qc⟩ := q0
    dsimp only at hs
    have hr : rrB ⟨id, fl, ⟨qn, qt, qc⟩ :: q, a, u, m⟩ ⟨n, t, c, tl, d⟩ = (if sameN n qn then [192, 12] else n) ++ tw ++ d := by rw [← htwE]; rfl
    rw [hr]
    have hq0g : (qnG (⟨qn, qt, qc⟩ :: q))[0]? = some [vs qn, vi qt, vi qc] := rfl
    have hlen : (qnG (⟨qn, qt, qc⟩ :: q)).length = q.length + 1 := by simp [qnG]
    have hpos : (0 : Int) < ((q.length + 1 : Nat) : Int) := by omega
    cases hsm : sameN n qn with
    | true =>
      rw [hsm] at hs
      rw [if_pos rfl]
      have e1 : bytesC bs ++ [AV.v (.int .u8 192), AV.v (.int .u8 12)] = bytesC (bs ++ [192, 12]) := by simp [bytesC]
      have e2 : (bs ++ [192, 12]).length = bs.length + 2 := List.length_append
      have hw := fun x0 x1 => htw x0 x1 (bs ++ [192, 12]) (by omega)
      have e3 : (bs ++ [192, 12] ++ tw).length = bs.length + 2 + 10 := by rw [List.length_append, e2, htwl]
      have e4 : bytesC (bs ++ [192, 12] ++ tw) ++ bytesC d = bytesC (bs ++ ([192, 12] ++ tw ++ d)) := by simp [bytesC]
      refine ASpec.enter Tryz.func112 rfl (fun a w => Tryz.call112 a w) Tryz.ntmps112 Tryz.results112 fun base w β hI => ?_
      refine wk (wA hbN (wA htk (wA hfd (wA e1 (wA (Eq.symm e2) (wA e4 (wA hpos wT))))))) (wA hw (wA hs (wA holM_PktE_4 (wA DrM.mk wT)))) ?_
      have e5 : (bs ++ [192, 12] ++ tw).length + d.length = (bs ++ ([192, 12] ++ tw ++ d)).length := by simp only [List.length_append]; omega
      refine wkEnd wT ?_
      rw [e5]
      exact Fin.own (i := 2) rfl rfl (bytesC_lt _) ⟨rfl, rfl⟩
    | false =>
      rw [hsm] at hs
      rw [if_neg (by simp)]
      have e1 : bytesC bs ++ bytesC n = bytesC (bs ++ n) := by simp [bytesC]
      have e2 : (bs ++ n).length = bs.length + n.length := List.length_append
      have hw := fun x0 x1 => htw x0 x1 (bs ++ n) (by omega)
      have e3 : (bs ++ n ++ tw).length = bs.length + n.length + 10 := by rw [List.length_append, e2, htwl]
      have e4 : bytesC (bs ++ n ++ tw) ++ bytesC d = bytesC (bs ++ (n ++ tw ++ d)) := by simp [bytesC]
      refine ASpec.enter Tryz.func112 rfl (fun a w => Tryz.call112 a w) Tryz.ntmps112 Tryz.results112 fun base w β hI => ?_
      refine wk (wA hbN (wA htk (wA hfd (wA e1 (wA (Eq.symm e2) (wA e4 (wA hpos wT))))))) (wA hw (wA hs (wA holM_PktE_4 (wA DrM.mk wT)))) ?_
      have e5 : (bs ++ n ++ tw).length + d.length = (bs ++ (n ++ tw ++ d)).length := by simp only [List.length_append]; omega
      refine wkEnd wT ?_
      rw [e5]
      exact Fin.own (i := 2) rfl rfl (bytesC_lt _) ⟨rfl, rfl⟩

end Go.Proofs.YtnlmdeeadldgmaaGreatDoor.VL

/- Layer 17: what may be of a packet, as the program says. -/
-- STEPWISE
-- WK
set_option linter.unusedVariables false
set_option linter.unusedSimpArgs false
set_option maxRecDepth 10000
namespace Go.Proofs.YtnlmdeeadldgmaaGreatDoor.VL
open Go Go.RowKit Go.Lib

theorem within_spec (n t : Int) (H : List Box) : ASpec Tryz.prog 139 [vi n, vi t] H (Gives (vb (win n t)) H) := by
  unfold win
  by_cases h : 0 ≤ n
  · refine ASpec.enter Tryz.func139 rfl (fun a w => Tryz.call139 a w) Tryz.ntmps139 Tryz.results139 fun base w β hI => ?_
    refine wk (wA h wT) (wA DrM.mk wT) ?_
    refine wkEnd wT ?_
    exact Fin.same ⟨by simp [h], rfl⟩
  · refine ASpec.enter Tryz.func139 rfl (fun a w => Tryz.call139 a w) Tryz.ntmps139 Tryz.results139 fun base w β hI => ?_
    refine wk (wA h wT) (wA DrM.mk wT) ?_
    refine wkEnd wT ?_
    exact Fin.same ⟨by simp [h], rfl⟩

set_option maxHeartbeats 2000000 in
theorem question_spec (q : Qn) (hq : q.n.length ≤ 9223372036854775807) (H : List Box) : ASpec Tryz.prog 141 [.agg (qnC q)] H (Gives (vb (qOk q)) H) := by
  obtain ⟨n, t, c⟩ := q
  dsimp only at hq
  have hr := fun H => labRight_spec n hq H
  have w1 := fun H => within_spec t 65535 H
  have w2 := fun H => within_spec c 65535 H
  unfold qOk
  dsimp only
  generalize (lab n).isSome = x1 at *
  generalize win t 65535 = x2 at *
  generalize win c 65535 = x3 at *
  cases x1 <;> cases x2 <;> cases x3 <;> (
    refine ASpec.enter Tryz.func141 rfl (fun a w => Tryz.call141 a w) Tryz.ntmps141 Tryz.results141 fun base w β hI => ?_
    refine wk wT (wA hr (wA w1 (wA w2 (wA DrM.mk wT)))) ?_
    refine wkEnd wT ?_
    exact Fin.cut (.v _) ⟨rfl, rfl⟩)

set_option maxHeartbeats 2000000 in
theorem record_spec (r : Rr) (hn : r.n.length ≤ 9223372036854775807) (hd : r.d.length ≤ 9223372036854775807) (H : List Box) : ASpec Tryz.prog 143 [.agg (rrC r)] H (Gives (vb (rOk r)) H) := by
  obtain ⟨n, t, c, l, d⟩ := r
  dsimp only at hn hd
  have hr := fun H => labRight_spec n hn H
  have w1 := fun H => within_spec t 65535 H
  have w2 := fun H => within_spec c 65535 H
  have w3 := fun H => within_spec l 2147483647 H
  unfold rOk
  dsimp only
  have hdl : decide (d.length ≤ 1000) = decide ((d.length : Int) ≤ 1000) := decide_eq_decide.2 (by omega)
  rw [hdl]
  generalize (lab n).isSome = x1 at *
  generalize win t 65535 = x2 at *
  generalize win c 65535 = x3 at *
  generalize win l 2147483647 = x4 at *
  cases x1
  · refine ASpec.enter Tryz.func143 rfl (fun a w => Tryz.call143 a w) Tryz.ntmps143 Tryz.results143 fun base w β hI => ?_
    refine wk wT (wA hr (wA w1 (wA w2 (wA w3 (wA DrM.mk wT))))) ?_
    refine wkEnd wT ?_
    exact Fin.cut (.v _) ⟨rfl, rfl⟩
  cases x2
  · refine ASpec.enter Tryz.func143 rfl (fun a w => Tryz.call143 a w) Tryz.ntmps143 Tryz.results143 fun base w β hI => ?_
    refine wk wT (wA hr (wA w1 (wA w2 (wA w3 (wA DrM.mk wT))))) ?_
    refine wkEnd wT ?_
    exact Fin.cut (.v _) ⟨rfl, rfl⟩
  cases x3
  · refine ASpec.enter Tryz.func143 rfl (fun a w => Tryz.call143 a w) Tryz.ntmps143 Tryz.results143 fun base w β hI => ?_
    refine wk wT (wA hr (wA w1 (wA w2 (wA w3 (wA DrM.mk wT))))) ?_
    refine wkEnd wT ?_
    exact Fin.cut (.v _) ⟨rfl, rfl⟩
  cases x4
  · refine ASpec.enter Tryz.func143 rfl (fun a w => Tryz.call143 a w) Tryz.ntmps143 Tryz.results143 fun base w β hI => ?_
    refine wk wT (wA hr (wA w1 (wA w2 (wA w3 (wA DrM.mk wT))))) ?_
    refine wkEnd wT ?_
    exact Fin.cut (.v _) ⟨rfl, rfl⟩
  · refine ASpec.enter Tryz.func143 rfl (fun a w => Tryz.call143 a w) Tryz.ntmps143 Tryz.results143 fun base w β hI => ?_
    refine wk wT (wA hr (wA w1 (wA w2 (wA w3 (wA DrM.mk wT))))) ?_
    refine wkEnd wT ?_
    exact Fin.cut (.v _) ⟨rfl, rfl⟩

end Go.Proofs.YtnlmdeeadldgmaaGreatDoor.VL

/- Layer 17: whether all of a packet's lists may be. -/
-- STEPWISE
-- WK
set_option linter.unusedVariables false
set_option linter.unusedSimpArgs false
set_option maxRecDepth 10000
namespace Go.Proofs.YtnlmdeeadldgmaaGreatDoor.VL
open Go Go.RowKit Go.Lib

/-- 'Qn': a closure that says which may not be. -/
theorem notQn_spec (q : Qn) (hq : q.n.length ≤ 9223372036854775807) (b : Nat) (H : List Box) (hb : H[b]? = some ⟨[.fn 141 []], 0, 0, false⟩) :
    ASpec Tryz.prog 157 [.agg (qnC q), .ptr b 0 0] H (Gives (vb (!qOk q)) H) := by
  have hs := fun H => question_spec q hq H
  have hbl : b < H.length := (List.getElem?_eq_some_iff.1 hb).1
  have hb2 : ∀ N : List Box, (H ++ N)[b]? = some ⟨[.fn 141 []], 0, 0, false⟩ := fun N => by rw [List.getElem?_append_left hbl]; exact hb
  refine ASpec.enter Tryz.func157 rfl (fun a w => Tryz.call157 a w) Tryz.ntmps157 Tryz.results157 fun base w β hI => ?_
  refine wk (wA hb2 wT) (wA hs (wA DrM.mk wT)) ?_
  refine wkEnd wT ?_
  exact Fin.cut (.v _) ⟨rfl, rfl⟩
theorem ixQn_spec (l : List Qn) (hl : l.length ≤ 9223372036854775807) (hq : ∀ q ∈ l, q.n.length ≤ 9223372036854775807) (b : Nat) (H : List Box) (hb : H[b]? = some ⟨[.fn 141 []], 0, 0, false⟩) :
    ASpec Tryz.prog 170 [.lst 3 (qnG l), .fn 157 [.ptr b 0 0]] H (Gives (vi (fstIx (fun q => !qOk q) l 0)) H) := by
  refine ASpec.enter Tryz.func170 rfl (fun a w => Tryz.call170 a w) Tryz.ntmps170 Tryz.results170 fun base w β hI => ?_
  refine wk wT (wA DrM.mk wT) ?_
  refine AWP.loop (ι := {i : Nat // i ≤ l.length ∧ fstIx (fun q => !qOk q) l 0 = fstIx (fun q => !qOk q) (l.drop i) i})
    (fun p => ⟨[(0, .lst 3 (qnG l)), (1, .fn 157 [.ptr b 0 0]), (7, vi l.length), (8, vi p.1)], H⟩) (fun p => l.length - p.1) ⟨0, Nat.zero_le _, by rw [List.drop_zero]⟩ ?_ ?_
  · dsimp only
    exact Coe.kp
  · rintro ⟨i, hi, he⟩
    dsimp only
    by_cases hc : (i : Int) < (l.length : Int)
    · have hg : l[i]? = some l[i] := List.getElem?_eq_getElem (by omega)
      have hm := hq l[i] (List.getElem_mem _)
      generalize l[i] = q at hg hm
      have hs := fun H hb => notQn_spec q hm b H hb
      rw [fstIx_drop _ hg] at he
      generalize qOk q = x at hs he
      obtain ⟨n, t, c⟩ := q
      dsimp only at hs hm
      have hs : ∀ H : List Box, H[b]? = some ⟨[.fn 141 []], 0, 0, false⟩ → ASpec Tryz.prog 157 [.agg [vs n, vi t, vi c], .ptr b 0 0] H (Gives (vb (!x)) H) := hs
      cases x with
      | true =>
        refine wk (wA hc (wA hg wT)) (wA (hs _ hb) (wA DrM.mk wT)) ?_
        refine ⟨⟨i + 1, by omega, by rw [he]; rfl⟩, ?_, by dsimp only; omega⟩
        dsimp only
        exact Coe.kp
      | false =>
        have he2 : fstIx (fun q => !qOk q) l 0 = (i : Int) := by rw [he]; rfl
        rw [he2]
        refine wk (wA hc (wA hg wT)) (wA (hs _ hb) (wA DrM.mk wT)) ?_
        refine wkEnd wT ?_
        exact Fin.same ⟨rfl, rfl⟩
    · rw [List.drop_of_length_le (by omega)] at he
      rw [he]
      refine wk (wA hc wT) (wA DrM.mk wT) ?_
      refine wkEnd wT ?_
      exact Fin.same ⟨rfl, rfl⟩
theorem hasQn_spec (l : List Qn) (hl : l.length ≤ 9223372036854775807) (hq : ∀ q ∈ l, q.n.length ≤ 9223372036854775807) (b : Nat) (H : List Box) (hb : H[b]? = some ⟨[.fn 141 []], 0, 0, false⟩) :
    ASpec Tryz.prog 156 [.lst 3 (qnG l), .fn 157 [.ptr b 0 0]] H (Gives (vb (l.any fun q => !qOk q)) H) := by
  have hs := fun H hb => ixQn_spec l hl hq b H hb
  have ha := fstIx_any (fun q => !qOk q) l 0
  generalize fstIx (fun q => !qOk q) l 0 = x at hs ha
  rw [← ha]
  refine ASpec.enter Tryz.func156 rfl (fun a w => Tryz.call156 a w) Tryz.ntmps156 Tryz.results156 fun base w β hI => ?_
  refine wk wT (wA (hs _ hb) (wA DrM.mk wT)) ?_
  refine wkEnd wT ?_
  exact Fin.same ⟨rfl, rfl⟩
theorem allQn_spec (l : List Qn) (hl : l.length ≤ 9223372036854775807) (hq : ∀ q ∈ l, q.n.length ≤ 9223372036854775807) (H : List Box) :
    ASpec Tryz.prog 140 [.lst 3 (qnG l), .fn 141 []] H (Gives (vb (qsOk l)) H) := by
  have hs := fun (N : List Box) => hasQn_spec l hl hq H.length (H ++ (⟨[.fn 141 []], 0, 0, false⟩ :: N)) (by simp)
  unfold qsOk
  rw [← any_not]
  generalize (l.any fun q => !qOk q) = x at hs
  have hdl : decide (l.length ≤ 100) = decide ((l.length : Int) ≤ 100) := decide_eq_decide.2 (by omega)
  rw [hdl]
  by_cases h : (l.length : Int) ≤ 100
  · refine ASpec.enter Tryz.func140 rfl (fun a w => Tryz.call140 a w) Tryz.ntmps140 Tryz.results140 fun base w β hI => ?_
    refine wk (wA h wT) (wA (hs []) (wA DrM.mk wT)) ?_
    refine wkEnd wT ?_
    exact Fin.cut (.v _) ⟨by simp [h], rfl⟩
  · refine ASpec.enter Tryz.func140 rfl (fun a w => Tryz.call140 a w) Tryz.ntmps140 Tryz.results140 fun base w β hI => ?_
    refine wk (wA h wT) (wA DrM.mk wT) ?_
    refine wkEnd wT ?_
    exact Fin.cut (.v _) ⟨by simp [h], rfl⟩

/-- 'Rr': a closure that says which may not be. -/
theorem notRr_spec (q : Rr) (hq : q.n.length ≤ 9223372036854775807 ∧ q.d.length ≤ 9223372036854775807) (b : Nat) (H : List Box) (hb : H[b]? = some ⟨[.fn 143 []], 0, 0, false⟩) :
    ASpec Tryz.prog 159 [.agg (rrC q), .ptr b 0 0] H (Gives (vb (!rOk q)) H) := by
  have hs := fun H => record_spec q hq.1 hq.2 H
  have hbl : b < H.length := (List.getElem?_eq_some_iff.1 hb).1
  have hb2 : ∀ N : List Box, (H ++ N)[b]? = some ⟨[.fn 143 []], 0, 0, false⟩ := fun N => by rw [List.getElem?_append_left hbl]; exact hb
  refine ASpec.enter Tryz.func159 rfl (fun a w => Tryz.call159 a w) Tryz.ntmps159 Tryz.results159 fun base w β hI => ?_
  refine wk (wA hb2 wT) (wA hs (wA DrM.mk wT)) ?_
  refine wkEnd wT ?_
  exact Fin.cut (.v _) ⟨rfl, rfl⟩
theorem ixRr_spec (l : List Rr) (hl : l.length ≤ 9223372036854775807) (hq : ∀ q ∈ l, q.n.length ≤ 9223372036854775807 ∧ q.d.length ≤ 9223372036854775807) (b : Nat) (H : List Box) (hb : H[b]? = some ⟨[.fn 143 []], 0, 0, false⟩) :
    ASpec Tryz.prog 171 [.lst 5 (rrG l), .fn 159 [.ptr b 0 0]] H (Gives (vi (fstIx (fun q => !rOk q) l 0)) H) := by
  refine ASpec.enter Tryz.func171 rfl (fun a w => Tryz.call171 a w) Tryz.ntmps171 Tryz.results171 fun base w β hI => ?_
  refine wk wT (wA DrM.mk wT) ?_
  refine AWP.loop (ι := {i : Nat // i ≤ l.length ∧ fstIx (fun q => !rOk q) l 0 = fstIx (fun q => !rOk q) (l.drop i) i})
    (fun p => ⟨[(0, .lst 5 (rrG l)), (1, .fn 159 [.ptr b 0 0]), (7, vi l.length), (8, vi p.1)], H⟩) (fun p => l.length - p.1) ⟨0, Nat.zero_le _, by rw [List.drop_zero]⟩ ?_ ?_
  · dsimp only
    exact Coe.kp
  · rintro ⟨i, hi, he⟩
    dsimp only
    by_cases hc : (i : Int) < (l.length : Int)
    · have hg : l[i]? = some l[i] := List.getElem?_eq_getElem (by omega)
      have hm := hq l[i] (List.getElem_mem _)
      generalize l[i] = q at hg hm
      have hs := fun H hb => notRr_spec q hm b H hb
      rw [fstIx_drop _ hg] at he
      generalize rOk q = x at hs he
      obtain ⟨n, t, c, tl, d⟩ := q
      dsimp only at hs hm
      have hs : ∀ H : List Box, H[b]? = some ⟨[.fn 143 []], 0, 0, false⟩ → ASpec Tryz.prog 159 [.agg [vs n, vi t, vi c, vi tl, vs d], .ptr b 0 0] H (Gives (vb (!x)) H) := hs
      cases x with
      | true =>
        refine wk (wA hc (wA hg wT)) (wA (hs _ hb) (wA DrM.mk wT)) ?_
        refine ⟨⟨i + 1, by omega, by rw [he]; rfl⟩, ?_, by dsimp only; omega⟩
        dsimp only
        exact Coe.kp
      | false =>
        have he2 : fstIx (fun q => !rOk q) l 0 = (i : Int) := by rw [he]; rfl
        rw [he2]
        refine wk (wA hc (wA hg wT)) (wA (hs _ hb) (wA DrM.mk wT)) ?_
        refine wkEnd wT ?_
        exact Fin.same ⟨rfl, rfl⟩
    · rw [List.drop_of_length_le (by omega)] at he
      rw [he]
      refine wk (wA hc wT) (wA DrM.mk wT) ?_
      refine wkEnd wT ?_
      exact Fin.same ⟨rfl, rfl⟩
theorem hasRr_spec (l : List Rr) (hl : l.length ≤ 9223372036854775807) (hq : ∀ q ∈ l, q.n.length ≤ 9223372036854775807 ∧ q.d.length ≤ 9223372036854775807) (b : Nat) (H : List Box) (hb : H[b]? = some ⟨[.fn 143 []], 0, 0, false⟩) :
    ASpec Tryz.prog 158 [.lst 5 (rrG l), .fn 159 [.ptr b 0 0]] H (Gives (vb (l.any fun q => !rOk q)) H) := by
  have hs := fun H hb => ixRr_spec l hl hq b H hb
  have ha := fstIx_any (fun q => !rOk q) l 0
  generalize fstIx (fun q => !rOk q) l 0 = x at hs ha
  rw [← ha]
  refine ASpec.enter Tryz.func158 rfl (fun a w => Tryz.call158 a w) Tryz.ntmps158 Tryz.results158 fun base w β hI => ?_
  refine wk wT (wA (hs _ hb) (wA DrM.mk wT)) ?_
  refine wkEnd wT ?_
  exact Fin.same ⟨rfl, rfl⟩
theorem allRr_spec (l : List Rr) (hl : l.length ≤ 9223372036854775807) (hq : ∀ q ∈ l, q.n.length ≤ 9223372036854775807 ∧ q.d.length ≤ 9223372036854775807) (H : List Box) :
    ASpec Tryz.prog 142 [.lst 5 (rrG l), .fn 143 []] H (Gives (vb (rsOk l)) H) := by
  have hs := fun (N : List Box) => hasRr_spec l hl hq H.length (H ++ (⟨[.fn 143 []], 0, 0, false⟩ :: N)) (by simp)
  unfold rsOk
  rw [← any_not]
  generalize (l.any fun q => !rOk q) = x at hs
  have hdl : decide (l.length ≤ 100) = decide ((l.length : Int) ≤ 100) := decide_eq_decide.2 (by omega)
  rw [hdl]
  by_cases h : (l.length : Int) ≤ 100
  · refine ASpec.enter Tryz.func142 rfl (fun a w => Tryz.call142 a w) Tryz.ntmps142 Tryz.results142 fun base w β hI => ?_
    refine wk (wA h wT) (wA (hs []) (wA DrM.mk wT)) ?_
    refine wkEnd wT ?_
    exact Fin.cut (.v _) ⟨by simp [h], rfl⟩
  · refine ASpec.enter Tryz.func142 rfl (fun a w => Tryz.call142 a w) Tryz.ntmps142 Tryz.results142 fun base w β hI => ?_
    refine wk (wA h wT) (wA DrM.mk wT) ?_
    refine wkEnd wT ?_
    exact Fin.cut (.v _) ⟨by simp [h], rfl⟩

end Go.Proofs.YtnlmdeeadldgmaaGreatDoor.VL

/- Layer 17: whether a packet may be, as the program says. -/
-- STEPWISE
-- WK
-- TAIL
set_option linter.unusedVariables false
set_option linter.unusedSimpArgs false
set_option maxRecDepth 10000
namespace Go.Proofs.YtnlmdeeadldgmaaGreatDoor.VL
open Go Go.RowKit Go.Lib

theorem Fin.cutL {E : Ent} {r : AV} {N : List Box} {K : AV → List Box → Prop} (hr : Lt E.H.length r) (h : K r E.H) : Fin E r (E.H ++ N) K :=
  ⟨r, E.H, fun w β v hI hs h => by
    obtain ⟨h1, h2, h3⟩ := cut_inv hI hs (fun i bx hi j c hj => E.inv.ltCells hi hj) (Nat.le_refl _)
    exact ⟨β, h1, h2, h3 r v hr h⟩, h⟩
theorem lists_spec (p : Pk) (b g : Nat) (H : List Box) {bx : Box} (hb : H[b]? = some bx) (hg : bx.gen = g) (hc : bx.cells.length = 6) : ASpec Tryz.prog 111 [.ptr b g 0] H (Gives (.agg [.ptr b g 3, .ptr b g 4, .ptr b g 5]) H) := by
  have hbl : b < H.length := (List.getElem?_eq_some_iff.1 hb).1
  have hb2 : ∀ N : List Box, (H ++ N)[b]? = some bx := fun N => by rw [List.getElem?_append_left hbl]; exact hb
  refine ASpec.enter Tryz.func111 rfl (fun a w => Tryz.call111 a w) Tryz.ntmps111 Tryz.results111 fun base w β hI => ?_
  refine wk (wA hb2 (wA hg (wA hc wT))) (wA TlM.mk (wA DrM.mk wT)) ?_
  refine wkEnd wT ?_
  exact Fin.cutL ((Lt.ptr _ _ _ hbl).cons_agg ((Lt.ptr _ _ _ hbl).cons_agg ((Lt.ptr _ _ _ hbl).cons_agg .nil_agg))) ⟨rfl, rfl⟩

/-- The conditions so far, of the first i lists. -/
def pOk0 (p : Pk) : Bool := win p.id 65535 && (win p.fl 65535 && qsOk p.q)
def pOkTo (p : Pk) : Nat → Bool
  | 0 => pOk0 p
  | 1 => pOk0 p && rsOk p.a
  | 2 => (pOk0 p && rsOk p.a) && rsOk p.u
  | _ => ((pOk0 p && rsOk p.a) && rsOk p.u) && rsOk p.m
theorem pOkTo_all (p : Pk) : pOkTo p 3 = pOk p := by
  simp only [pOkTo, pOk0, pOk, Bool.and_assoc]

def rOkL (l : List Rr) : Prop := ∀ q ∈ l, q.n.length ≤ 9223372036854775807 ∧ q.d.length ≤ 9223372036854775807
structure PkL (p : Pk) : Prop where
  q : ∀ q ∈ p.q, q.n.length ≤ 9223372036854775807
  a : rOkL p.a
  u : rOkL p.u
  m : rOkL p.m
  lq : p.q.length ≤ 9223372036854775807
  la : p.a.length ≤ 9223372036854775807
  lu : p.u.length ≤ 9223372036854775807
  lm : p.m.length ≤ 9223372036854775807

set_option maxHeartbeats 4000000 in
theorem pktRight_loop (p : Pk) (hp : PkL p) (E : Ent) (hE : E.n = 32) (Q : AExit → ASt → Prop) (body : Code) (hbody : (Tryz.f109.body).bind firstLoop = some body)
    (hQ : ∀ l, lk l 3 = vb (pOk p) → Q (.exit 0) ⟨l, E.H ++ [⟨pkC p, 0, 0, false⟩]⟩) :
    AWP Tryz.prog E (.loop body) Q ⟨[(3, vb (pOkTo p 0)), (19, .agg [.ptr E.H.length 0 3, .ptr E.H.length 0 4, .ptr E.H.length 0 5]), (20, vi 0)], E.H ++ [⟨pkC p, 0, 0, false⟩]⟩ := by
  have aa := fun H => allRr_spec p.a hp.la hp.a H
  have au := fun H => allRr_spec p.u hp.lu hp.u H
  have am := fun H => allRr_spec p.m hp.lm hp.m H
  have e1 : pOkTo p 1 = (pOkTo p 0 && rsOk p.a) := rfl
  have e2 : pOkTo p 2 = (pOkTo p 1 && rsOk p.u) := rfl
  have e3 : pOkTo p 3 = (pOkTo p 2 && rsOk p.m) := rfl
  rw [← pOkTo_all] at hQ
  generalize rsOk p.a = x4 at *
  generalize rsOk p.u = x5 at *
  generalize rsOk p.m = x6 at *
  generalize pOkTo p = G at *
  obtain ⟨id, fl, q, a, u, m⟩ := p
  obtain ⟨base, n, w, H, β, hI, ds⟩ := E
  dsimp only at *
  subst hE
  dsimp only [firstLoop, Option.bind, Tryz.f109] at hbody
  injection hbody with hbody
  subst hbody
  refine AWP.loop (ι := {i : Nat // i ≤ 3}) (fun p => ⟨[(3, vb (G p.1)), (19, .agg [.ptr H.length 0 3, .ptr H.length 0 4, .ptr H.length 0 5]), (20, vi p.1)], H ++ [⟨pkC ⟨id, fl, q, a, u, m⟩, 0, 0, false⟩]⟩) (fun p => 3 - p.1) ⟨0, by omega⟩ ?_ ?_
  · dsimp only
    exact Coe.kp
  · rintro ⟨i, hi⟩
    dsimp only
    rcases i with _ | _ | _ | _ | i
    · cases hg : G 0
      · rw [hg, Bool.false_and] at e1
        refine wk wT (wA TlM.mk (wA DrM.mk wT)) ?_
        refine ⟨⟨1, by omega⟩, ?_, by dsimp only; omega⟩
        dsimp only
        rw [e1]
        exact Coe.kp
      · rw [hg, Bool.true_and] at e1
        refine wk wT (wA aa (wA TlM.mk (wA DrM.mk wT))) ?_
        refine ⟨⟨1, by omega⟩, ?_, by dsimp only; omega⟩
        dsimp only
        rw [e1]
        exact Coe.kp
    · cases hg : G 1
      · rw [hg, Bool.false_and] at e2
        refine wk wT (wA TlM.mk (wA DrM.mk wT)) ?_
        refine ⟨⟨2, by omega⟩, ?_, by dsimp only; omega⟩
        dsimp only
        rw [e2]
        exact Coe.kp
      · rw [hg, Bool.true_and] at e2
        refine wk wT (wA au (wA TlM.mk (wA DrM.mk wT))) ?_
        refine ⟨⟨2, by omega⟩, ?_, by dsimp only; omega⟩
        dsimp only
        rw [e2]
        exact Coe.kp
    · cases hg : G 2
      · rw [hg, Bool.false_and] at e3
        refine wk wT (wA TlM.mk (wA DrM.mk wT)) ?_
        refine ⟨⟨3, by omega⟩, ?_, by dsimp only; omega⟩
        dsimp only
        rw [e3]
        exact Coe.kp
      · rw [hg, Bool.true_and] at e3
        refine wk wT (wA am (wA TlM.mk (wA DrM.mk wT))) ?_
        refine ⟨⟨3, by omega⟩, ?_, by dsimp only; omega⟩
        dsimp only
        rw [e3]
        exact Coe.kp
    · refine wk wT (wA TlM.mk (wA DrM.mk wT)) ?_
      exact hQ _ rfl
    · omega

set_option maxHeartbeats 4000000 in
theorem pktRight_spec (p : Pk) (hp : PkL p) (H : List Box) : ASpec Tryz.prog 109 [.agg (pkC p)] H (Gives (vb (pOk p)) H) := by
  have w1 := fun H => within_spec p.id 65535 H
  have w2 := fun H => within_spec p.fl 65535 H
  have aq := fun H => allQn_spec p.q hp.lq hp.q H
  have hli := lists_spec p H.length 0 (H ++ [⟨pkC p, 0, 0, false⟩]) (bx := ⟨pkC p, 0, 0, false⟩) (by simp) rfl rfl
  have e0 : pOkTo p 0 = (win p.id 65535 && (win p.fl 65535 && qsOk p.q)) := rfl
  have hloop := fun E hE Q => pktRight_loop p hp E hE Q _ rfl
  generalize win p.id 65535 = x1 at *
  generalize win p.fl 65535 = x2 at *
  generalize qsOk p.q = x3 at *
  rw [e0] at hloop
  obtain ⟨id, fl, q, a, u, m⟩ := p
  dsimp only at *
  cases x1
  · refine ASpec.enter Tryz.func109 rfl (fun a w => Tryz.call109 a w) Tryz.ntmps109 Tryz.results109 fun base w β hI => ?_
    refine wk wT (wA w1 (wA w2 (wA aq (wA hli (wA TlM.mk (wA DrM.mk wT)))))) ?_
    refine AWP.coe ?_ (hloop _ rfl _ ?_)
    · exact Coe.kp
      all_goals rfl
    · intro l hl
      refine wk (wA hl wT) (wA TlM.mk (wA DrM.mk wT)) ?_
      refine wkEnd wT ?_
      exact Fin.cut (.v _) ⟨rfl, rfl⟩
  cases x2
  · refine ASpec.enter Tryz.func109 rfl (fun a w => Tryz.call109 a w) Tryz.ntmps109 Tryz.results109 fun base w β hI => ?_
    refine wk wT (wA w1 (wA w2 (wA aq (wA hli (wA TlM.mk (wA DrM.mk wT)))))) ?_
    refine AWP.coe ?_ (hloop _ rfl _ ?_)
    · exact Coe.kp
      all_goals rfl
    · intro l hl
      refine wk (wA hl wT) (wA TlM.mk (wA DrM.mk wT)) ?_
      refine wkEnd wT ?_
      exact Fin.cut (.v _) ⟨rfl, rfl⟩
  cases x3
  · refine ASpec.enter Tryz.func109 rfl (fun a w => Tryz.call109 a w) Tryz.ntmps109 Tryz.results109 fun base w β hI => ?_
    refine wk wT (wA w1 (wA w2 (wA aq (wA hli (wA TlM.mk (wA DrM.mk wT)))))) ?_
    refine AWP.coe ?_ (hloop _ rfl _ ?_)
    · exact Coe.kp
      all_goals rfl
    · intro l hl
      refine wk (wA hl wT) (wA TlM.mk (wA DrM.mk wT)) ?_
      refine wkEnd wT ?_
      exact Fin.cut (.v _) ⟨rfl, rfl⟩
  · refine ASpec.enter Tryz.func109 rfl (fun a w => Tryz.call109 a w) Tryz.ntmps109 Tryz.results109 fun base w β hI => ?_
    refine wk wT (wA w1 (wA w2 (wA aq (wA hli (wA TlM.mk (wA DrM.mk wT)))))) ?_
    refine AWP.coe ?_ (hloop _ rfl _ ?_)
    · exact Coe.kp
      all_goals rfl
    · intro l hl
      refine wk (wA hl wT) (wA TlM.mk (wA DrM.mk wT)) ?_
      refine wkEnd wT ?_
      exact Fin.cut (.v _) ⟨rfl, rfl⟩

end Go.Proofs.YtnlmdeeadldgmaaGreatDoor.VL

/- Layer 17: what a packet's bytes are, in plain values; lengths. -/
set_option linter.unusedVariables false
set_option linter.unusedSimpArgs false
namespace Go.Proofs.YtnlmdeeadldgmaaGreatDoor.VL
open Go Go.RowKit Go.Lib

def qnN (q : Qn) : List Int := [q.t, q.c]
def qnB (q : Qn) : List UInt8 := q.n ++ twoB (qnN q)
def qsB (l : List Qn) : List UInt8 := l.flatMap qnB
/-- Records behind bytes, as long as there is room: the bytes, how many, and whether there was none. -/
def fillR (p : Pk) (lim : Int) : List UInt8 → List Rr → List UInt8 × Nat × Bool
  | acc, [] => (acc, 0, false)
  | acc, r :: l => if lim < ((acc ++ rrB p r).length : Int) then (acc, 0, true) else ((fillR p lim (acc ++ rrB p r) l).1, (fillR p lim (acc ++ rrB p r) l).2.1 + 1, (fillR p lim (acc ++ rrB p r) l).2.2)
def fill1 (p : Pk) (lim : Int) : List UInt8 × Nat × Bool := fillR p lim (zerosB 12 ++ qsB p.q) p.a
def fill2 (p : Pk) (lim : Int) : List UInt8 × Nat × Bool := if (fill1 p lim).2.2 then ((fill1 p lim).1, 0, true) else fillR p lim (fill1 p lim).1 p.u
def fill3 (p : Pk) (lim : Int) : List UInt8 × Nat × Bool := if (fill2 p lim).2.2 then ((fill2 p lim).1, 0, true) else fillR p lim (fill2 p lim).1 p.m
def hdN (p : Pk) (lim : Int) : List Int := [p.id, if (fill3 p lim).2.2 then ior .i64 p.fl 512 else p.fl, p.q.length, (fill1 p lim).2.1, (fill2 p lim).2.1, (fill3 p lim).2.1]
/-- A packet's bytes within a limit. -/
def bldP (p : Pk) (lim : Int) : List UInt8 × Int :=
  if pOk p = false then ([], 1) else if lim < ((zerosB 12 ++ qsB p.q).length : Int) then ([], 4) else (twoB (hdN p lim) ++ (fill3 p lim).1.drop 12, 0)

/-- Lengths. -/
structure ROk (r : Rr) : Prop where
  n0 : 0 < r.n.length
  n : r.n.length ≤ 255
  d : r.d.length ≤ 1000
theorem lab_len {s : List UInt8} (h : (lab s).isSome = true) : 0 < s.length ∧ s.length ≤ 255 := by
  obtain ⟨l, hl⟩ := Option.isSome_iff_exists.1 h
  obtain ⟨e, _, h3⟩ := lab_some hl
  rw [e, List.length_append, List.length_singleton]
  omega
theorem rOk_len {r : Rr} (h : rOk r = true) : ROk r := by
  unfold rOk at h
  simp only [Bool.and_eq_true, decide_eq_true_eq] at h
  obtain ⟨h1, h2⟩ := lab_len h.1
  exact ⟨h1, h2, h.2.2.2.2⟩
theorem qOk_len {q : Qn} (h : qOk q = true) : 0 < q.n.length ∧ q.n.length ≤ 255 := by
  unfold qOk at h
  simp only [Bool.and_eq_true] at h
  exact lab_len h.1
structure POk (p : Pk) : Prop where
  q : ∀ q ∈ p.q, 0 < q.n.length ∧ q.n.length ≤ 255
  a : ∀ r ∈ p.a, ROk r
  u : ∀ r ∈ p.u, ROk r
  m : ∀ r ∈ p.m, ROk r
  lq : p.q.length ≤ 100
  la : p.a.length ≤ 100
  lu : p.u.length ≤ 100
  lm : p.m.length ≤ 100
theorem pOk_len {p : Pk} (h : pOk p = true) : POk p := by
  unfold pOk qsOk rsOk at h
  simp only [Bool.and_eq_true, decide_eq_true_eq, List.all_eq_true] at h
  obtain ⟨_, _, ⟨h1, h2⟩, ⟨h3, h4⟩, ⟨h5, h6⟩, h7, h8⟩ := h
  exact ⟨fun q hq => qOk_len (h2 q hq), fun r hr => rOk_len (h4 r hr), fun r hr => rOk_len (h6 r hr), fun r hr => rOk_len (h8 r hr), h1, h3, h5, h7⟩
theorem nmB_len (p : Pk) {r : Rr} (h : ROk r) : (nmB p r).length ≤ 255 := by
  have := h.n
  unfold nmB
  split
  · simp
  · exact this
theorem rrB_len (p : Pk) {r : Rr} (h : ROk r) : (rrB p r).length ≤ 1265 := by
  have h1 := nmB_len p h
  have h2 := h.d
  have h3 : (twoB (rrN r)).length = 10 := by rw [twoB_length]; rfl
  rw [rrB, List.length_append, List.length_append, h3]
  omega
theorem qnB_len {q : Qn} (h : q.n.length ≤ 255) : (qnB q).length ≤ 259 := by
  have h3 : (twoB (qnN q)).length = 4 := by rw [twoB_length]; rfl
  rw [qnB, List.length_append, h3]
  omega
theorem qsB_len : ∀ (l : List Qn), (∀ q ∈ l, q.n.length ≤ 255) → (qsB l).length ≤ 259 * l.length
  | [], _ => by simp [qsB]
  | q :: l, h => by
    have e : qsB (q :: l) = qnB q ++ qsB l := by simp [qsB]
    have h1 := qnB_len (h q (by simp))
    have h2 := qsB_len l fun x hx => h x (by simp [hx])
    rw [e, List.length_append, List.length_cons]
    omega
theorem qsB_snoc (l : List Qn) (q : Qn) : qsB (l ++ [q]) = qsB l ++ qnB q := by simp [qsB]
theorem fillR_len (p : Pk) (lim : Int) : ∀ (l : List Rr) (acc : List UInt8), (∀ r ∈ l, ROk r) → acc.length ≤ (fillR p lim acc l).1.length ∧ (fillR p lim acc l).1.length ≤ acc.length + 1265 * l.length ∧ (fillR p lim acc l).2.1 ≤ l.length
  | [], acc, _ => by simp [fillR]
  | r :: l, acc, h => by
    rw [fillR]
    split
    · simp
    · have h1 := rrB_len p (h r (by simp))
      obtain ⟨i1, i2, i3⟩ := fillR_len p lim l (acc ++ rrB p r) fun x hx => h x (by simp [hx])
      rw [List.length_append] at i1 i2
      simp only [List.length_cons]
      omega
theorem fillR_drop {p : Pk} {lim : Int} {acc : List UInt8} {l : List Rr} {j : Nat} {r : Rr} (h : l[j]? = some r) : fillR p lim acc (l.drop j) = if lim < ((acc ++ rrB p r).length : Int) then (acc, 0, true) else ((fillR p lim (acc ++ rrB p r) (l.drop (j + 1))).1, (fillR p lim (acc ++ rrB p r) (l.drop (j + 1))).2.1 + 1, (fillR p lim (acc ++ rrB p r) (l.drop (j + 1))).2.2) := by
  have hi := (List.getElem?_eq_some_iff.1 h).1
  rw [List.drop_eq_getElem_cons hi, fillR, (List.getElem?_eq_some_iff.1 h).2]

end Go.Proofs.YtnlmdeeadldgmaaGreatDoor.VL

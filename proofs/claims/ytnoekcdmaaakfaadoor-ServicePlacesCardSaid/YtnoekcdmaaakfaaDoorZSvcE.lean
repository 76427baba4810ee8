/- Layer 15: a service's value, as the reference lays it; a value's service, as the program reads it. -/
import Derived.Test.YtnoekcdmaaakfaaDoorZSvcD
-- STEPWISE
-- WK
set_option linter.unusedVariables false
set_option linter.unusedSimpArgs false
set_option maxRecDepth 10000
namespace Go.Proofs.YtnoekcdmaaakfaaDoor.VL
open Go Go.RowKit Go.Lib

set_option maxHeartbeats 2000000 in
theorem refEncode_spec (s : Sv) (hn : s.n.length ≤ 9223372036854775807) (hp : s.p.length ≤ 9223372036854775807) (H : List Box) : ASpec Tryd.prog 8 [.agg (svC s)] H (Gives (enV (encS s)) H) := by
  have h0 := fun H => refRight15_spec s hn hp H
  unfold encS
  cases ho : svOk s with
  | false =>
    rw [ho] at h0
    rw [if_neg (by simp)]
    refine ASpec.enter Tryd.func8 rfl (fun a w => Tryd.call8 a w) Tryd.ntmps8 Tryd.results8 fun base w β hI => ?_
    refine wk wT (wA h0 (wA DrM.mk wT)) ?_
    refine wkEnd wT ?_
    exact Fin.cut (ltVV _ _) ⟨rfl, rfl⟩
  | true =>
    rw [ho] at h0
    rw [if_pos rfl]
    have hw := ho
    unfold svOk at hw
    simp only [Bool.and_eq_true, decide_eq_true_eq] at hw
    obtain ⟨hw1, hw2, _⟩ := hw
    obtain ⟨_, n20⟩ := wordOk_len hw1
    obtain ⟨_, p20⟩ := wordOk_len hw2
    obtain ⟨n, p, o, i, w, l⟩ := s
    dsimp only at n20 p20
    have l1 := numB_le9 n.length
    have l2 := numB_le9 p.length
    have h1 := fun H => (refText_spec [] n (by simp) (by omega) H).froz
    rw [List.nil_append] at h1
    have hl1 : (numB n.length ++ n).length ≤ 29 := by rw [List.length_append]; omega
    have h2 := fun H => (refText_spec (numB n.length ++ n) p (by omega) (by omega) H).froz
    have eb : encB ⟨n, p, o, i, w, l⟩ = numB n.length ++ n ++ (numB p.length ++ p) ++ numB o ++ numB i ++ numB w ++ numB (b01 l) := by
      simp only [encB, textB, numsB, List.flatMap_cons, List.flatMap_nil, List.append_nil, List.append_assoc]
    rw [eb]
    generalize numB n.length ++ n = A at *
    have hl2 : (A ++ (numB p.length ++ p)).length ≤ 58 := by rw [List.length_append, List.length_append]; omega
    generalize A ++ (numB p.length ++ p) = B at *
    have h3 := fun H => (refNum_spec B (by omega) o H).froz
    have hl3 : (B ++ numB o).length ≤ 67 := by have := numB_le9 o; rw [List.length_append]; omega
    generalize B ++ numB o = C at *
    have h4 := fun H => (refNum_spec C (by omega) i H).froz
    have hl4 : (C ++ numB i).length ≤ 76 := by have := numB_le9 i; rw [List.length_append]; omega
    generalize C ++ numB i = D at *
    have h5 := fun H => (refNum_spec D (by omega) w H).froz
    have hl5 : (D ++ numB w).length ≤ 85 := by have := numB_le9 w; rw [List.length_append]; omega
    generalize D ++ numB w = F at *
    cases l with
    | false =>
      have h6 := fun H => (refNum_spec F (by omega) 0 H).froz
      have hl6 : (F ++ numB 0).length ≤ 94 := by have := numB_le9 0; rw [List.length_append]; omega
      rw [show b01 false = 0 from rfl]
      generalize F ++ numB 0 = G at *
      refine ASpec.enter Tryd.func8 rfl (fun a w => Tryd.call8 a w) Tryd.ntmps8 Tryd.results8 fun base w β hI => ?_
      refine wkE wT (wA h0 (wA h1 (wA h2 (wA h3 (wA h4 (wA h5 (wA h6 (wA DrM.mk wT)))))))) ?_
      refine wkEnd wT ?_
      exact Fin.cut (ltVV _ _) ⟨rfl, rfl⟩
    | true =>
      have h6 := fun H => (refNum_spec F (by omega) 1 H).froz
      have hl6 : (F ++ numB 1).length ≤ 94 := by have := numB_le9 1; rw [List.length_append]; omega
      rw [show b01 true = 1 from rfl]
      generalize F ++ numB 1 = G at *
      refine ASpec.enter Tryd.func8 rfl (fun a w => Tryd.call8 a w) Tryd.ntmps8 Tryd.results8 fun base w β hI => ?_
      refine wkE wT (wA h0 (wA h1 (wA h2 (wA h3 (wA h4 (wA h5 (wA h6 (wA DrM.mk wT)))))))) ?_
      refine wkEnd wT ?_
      exact Fin.cut (ltVV _ _) ⟨rfl, rfl⟩

/-- Numbers as cells. -/
def intC (l : List Int) : List AV := l.map vi
@[go_sem] theorem intC_length (l : List Int) : (intC l).length = l.length := by simp [intC]
@[go_sem] theorem intC_set (l : List Int) (i : Nat) (x : Int) : (intC l).set i (.v (.int .i64 x)) = intC (l.set i x) := by simp [intC, List.map_set]
theorem list4 {l : List Int} (h : l.length = 4) : ∃ a b c d, l = [a, b, c, d] := by
  match l, h with
  | [a, b, c, d], _ => exact ⟨a, b, c, d, rfl⟩
/-- The rest of bytes, none where something is wrong. -/
def rs (r : List UInt8) (e : Int) : List UInt8 := if e = 0 then r else []
theorem Rep.tupE {w : World} {H : List Box} {β : Pl} {a c : AV} {x : Value} (h : Rep w H β (.tup [a, .emp, c]) x) : Rep w H β (.tup [a, vB [], c]) x := by
  cases h with
  | tup cs vs hl h =>
    refine .tup _ vs (by simpa using hl) fun j c' x hc hx => ?_
    rcases j with _ | _ | j
    · exact h 0 c' x hc hx
    · simp at hc
      subst hc
      have := h 1 .emp x rfl hx
      cases this with
      | emp a => exact .lst0 _ _ _
    · exact h (j + 2) c' x hc hx
theorem takeText_spec' (bs : List UInt8) (most : Int) (hl : bs.length ≤ 1099511627776) (H : List Box) : ASpec Tryd.prog 26 [vB bs, vi most] H (Gives (.tup [vs (tt bs most).1, vB (rs (tt bs most).2.1 (tt bs most).2.2), vi (tt bs most).2.2]) H) := by
  have h := takeText_spec bs most hl H
  unfold ttV at h
  unfold rs
  by_cases he : (tt bs most).2.2 = 0
  · rw [if_pos he] at h ⊢; exact h
  · rw [if_neg he] at h ⊢
    exact h.shed fun E hE => by
      subst hE
      exact Shed.weak fun w β v h => h.tupE
theorem take_spec' (bs : List UInt8) (hl : bs.length ≤ 1099511627776) (H : List Box) : ASpec Tryd.prog 27 [vB bs] H (Gives (.tup [vi (tk bs).1, vB (rs (tk bs).2.1 (tk bs).2.2), vi (tk bs).2.2]) H) := by
  have h := take_spec bs hl H
  unfold tkV at h
  unfold rs
  by_cases he : (tk bs).2.2 = 0
  · rw [if_pos he] at h ⊢; exact h
  · rw [if_neg he] at h ⊢
    exact h.shed fun E hE => by
      subst hE
      exact Shed.weak fun w β v h => h.tupE
theorem refTakeText_spec' (bs : List UInt8) (most : Int) (hl : bs.length ≤ 1099511627776) (H : List Box) : ASpec Tryd.prog 28 [vB bs, vi most] H (Gives (.tup [vs (tt bs most).1, vB (rs (tt bs most).2.1 (tt bs most).2.2), vi (tt bs most).2.2]) H) := by
  have h := refTakeText_spec bs most hl H
  unfold ttV at h
  unfold rs
  by_cases he : (tt bs most).2.2 = 0
  · rw [if_pos he] at h ⊢; exact h
  · rw [if_neg he] at h ⊢
    exact h.shed fun E hE => by
      subst hE
      exact Shed.weak fun w β v h => h.tupE
theorem refTake_spec' (bs : List UInt8) (hl : bs.length ≤ 1099511627776) (H : List Box) : ASpec Tryd.prog 29 [vB bs] H (Gives (.tup [vi (tk bs).1, vB (rs (tk bs).2.1 (tk bs).2.2), vi (tk bs).2.2]) H) := by
  have h := refTake_spec bs hl H
  unfold tkV at h
  unfold rs
  by_cases he : (tk bs).2.2 = 0
  · rw [if_pos he] at h ⊢; exact h
  · rw [if_neg he] at h ⊢
    exact h.shed fun E hE => by
      subst hE
      exact Shed.weak fun w β v h => h.tupE

set_option maxHeartbeats 4000000 in
theorem decode_spec (v : List UInt8) (hv : v.length ≤ 1099511627776) (H : List Box) : ASpec Tryd.prog 9 [vs v] H (Gives (svV (decS v)) H) := by
  have t1 := fun H => takeText_spec' v 20 hv H
  have f1 := tt_facts v 20
  unfold decS
  generalize tt v 20 = x1 at *
  obtain ⟨n, r1, e1⟩ := x1
  dsimp only at f1 ⊢
  by_cases h1 : e1 = 0
  · subst h1
    rw [if_neg (by simp)]
    have t2 := fun H => takeText_spec' r1 20 (by omega) H
    have er1 : rs r1 0 = r1 := rfl
    rw [er1] at t1
    have f2 := tt_facts r1 20
    generalize tt r1 20 = x2 at *
    obtain ⟨p, r2, e2⟩ := x2
    dsimp only at f2 ⊢
    have e0 : tk4 r2 e2 0 = ([0, 0, 0, 0], r2, e2) := rfl
    refine ASpec.enter Tryd.func9 rfl (fun a w => Tryd.call9 a w) Tryd.ntmps9 Tryd.results9 fun base w β hI => ?_
    refine wk wT (wA t1 (wA t2 (wA DrM.mk wT))) ?_
    refine AWP.loop (ι := {i : Nat // i ≤ 4})
      (fun i => ⟨[(2, .ptr H.length 0 0), (4, vs n), (5, vB (rs (tk4 r2 e2 i.1).2.1 (tk4 r2 e2 i.1).2.2)), (6, vi (tk4 r2 e2 i.1).2.2), (7, vs p), (8, .ptr (H.length + 1) 0 0), (28, vi i.1)], H ++ [⟨svC svZ, 0, 0, false⟩, ⟨intC (tk4 r2 e2 i.1).1, 0, 0, false⟩]⟩) (fun i => 4 - i.1) ⟨0, by decide⟩ ?_ ?_
    · dsimp only
      rw [e0]
      exact Coe.kp
    · rintro ⟨i, hi⟩
      dsimp only
      have hlen := tk4_len r2 e2 i
      have hrest := tk4_rest r2 e2 i
      by_cases hc : (i : Int) < 4
      · have hs : tk4 r2 e2 (i + 1) = if (tk4 r2 e2 i).2.2 = 0 then ((tk4 r2 e2 i).1.set i ((tk (tk4 r2 e2 i).2.1).1 : Int), (tk (tk4 r2 e2 i).2.1).2.1, (tk (tk4 r2 e2 i).2.1).2.2) else tk4 r2 e2 i := rfl
        generalize tk4 r2 e2 i = S at *
        obtain ⟨L, r, e⟩ := S
        dsimp only at hlen hrest hs ⊢
        by_cases he : e = 0
        · subst he
          have t3 := fun H => take_spec' r (by omega) H
          rw [if_pos rfl] at hs
          generalize tk r = y at *
          obtain ⟨k, r', e'⟩ := y
          dsimp only at hs
          have er : rs r 0 = r := rfl
          rw [er]
          refine wk (wA hc (wA hlen wT)) (wA t3 (wA DrM.mk wT)) ?_
          refine ⟨⟨i + 1, by omega⟩, ?_, by dsimp only; omega⟩
          dsimp only
          rw [hs]
          exact Coe.kp
        · rw [if_neg he] at hs
          refine wk (wA hc (wA hlen (wA he wT))) (wA DrM.mk wT) ?_
          refine ⟨⟨i + 1, by omega⟩, ?_, by dsimp only; omega⟩
          dsimp only
          rw [hs]
          exact Coe.kp
      · obtain rfl : i = 4 := by omega
        generalize tk4 r2 e2 4 = S at *
        obtain ⟨L, r, e⟩ := S
        dsimp only at hlen hrest ⊢
        obtain ⟨a, b, c, d, rfl⟩ := list4 hlen
        have em : mkSv n p [a, b, c, d] = ⟨n, p, a, b, c, decide (d = 1)⟩ := rfl
        have ei : intC [a, b, c, d] = [vi a, vi b, vi c, vi d] := rfl
        have ed : [a, b, c, d].getD 3 0 = d := rfl
        rw [em, ei, ed]
        by_cases he : e = 0
        · subst he
          rw [if_neg (by simp)]
          have er : rs r 0 = r := rfl
          rw [er]
          by_cases hr : (0 : Int) < (r.length : Int)
          · rw [if_pos (.inl (by omega))]
            refine wk (wA hr wT) (wA DrM.mk wT) ?_
            refine wkEnd wT ?_
            exact Fin.cut (ltS6 _ _ _ _ _ _ _) ⟨rfl, rfl⟩
          · by_cases hd : (1 : Int) < d
            · rw [if_pos (.inr (.inl hd))]
              refine wk (wA hr (wA hd wT)) (wA DrM.mk wT) ?_
              refine wkEnd wT ?_
              exact Fin.cut (ltS6 _ _ _ _ _ _ _) ⟨rfl, rfl⟩
            · have h7 := fun H => right_spec ⟨n, p, a, b, c, decide (d = 1)⟩ (by dsimp only; omega) (by dsimp only; omega) H
              cases ho : svOk ⟨n, p, a, b, c, decide (d = 1)⟩ with
              | false =>
                rw [ho] at h7
                rw [if_pos (.inr (.inr rfl))]
                refine wk (wA hr (wA hd wT)) (wA h7 (wA DrM.mk wT)) ?_
                refine wkEnd wT ?_
                exact Fin.cut (ltS6 _ _ _ _ _ _ _) ⟨rfl, rfl⟩
              | true =>
                rw [ho] at h7
                rw [if_neg (by intro h; rcases h with h | h | h <;> first | omega | cases h)]
                refine wk (wA hr (wA hd wT)) (wA h7 (wA DrM.mk wT)) ?_
                refine wkEnd wT ?_
                exact Fin.cut (ltS6 _ _ _ _ _ _ _) ⟨rfl, rfl⟩
        · rw [if_pos he]
          refine wk (wA he wT) (wA DrM.mk wT) ?_
          refine wkEnd wT ?_
          exact Fin.cut (ltS6 _ _ _ _ _ _ _) ⟨rfl, rfl⟩
  · rw [if_pos h1]
    refine ASpec.enter Tryd.func9 rfl (fun a w => Tryd.call9 a w) Tryd.ntmps9 Tryd.results9 fun base w β hI => ?_
    refine wk (wA h1 wT) (wA t1 (wA DrM.mk wT)) ?_
    refine wkEnd wT ?_
    exact Fin.cut (ltS6 _ _ _ _ _ _ _) ⟨rfl, rfl⟩

end Go.Proofs.YtnoekcdmaaakfaaDoor.VL

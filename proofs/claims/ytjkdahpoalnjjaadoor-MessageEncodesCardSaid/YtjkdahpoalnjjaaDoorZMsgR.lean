/- Layer 20: the program's reader of payloads: a delta. -/
import Derived.Test.YtjkdahpoalnjjaaDoorZCd
import Derived.Test.YtjkdahpoalnjjaaDoorZMe
import Derived.Test.YtjkdahpoalnjjaaDoorZCc
-- STEPWISE
-- WK
-- PAN
-- HWR
-- HOLE 6 0 [(.same, [0]), (.same, [0]), (.same, [0]), (.same, [0]), (.same, [0]), (.same, []), (.wr 0, []), (.same, []), (.same, []), (.wr 8, []), (.same, []), (.same, []), (.wr 7, [])]
set_option linter.unusedVariables false
set_option linter.unusedSimpArgs false
set_option maxRecDepth 10000
namespace Go.Proofs.YtjkdahpoalnjjaaDoor.VL
open Go Go.RowKit Go.Lib

theorem holM_MsgR_6 : HolM 6 0 [(.same, [0]), (.same, [0]), (.same, [0]), (.same, [0]), (.same, [0]), (.same, []), (.wr 0, []), (.same, []), (.same, []), (.wr 8, []), (.same, []), (.same, []), (.wr 7, [])] := ⟨⟩

def rEn (b : List UInt8) : Rd En := match rNum b with
  | .error e => .error e
  | .ok (k, r) => match rNum r with
    | .error e => .error e
    | .ok (v, r) => match rText r with
      | .error e => .error e
      | .ok (s, r) => .ok (⟨k, v, s⟩, r)
/-- So many, one behind the other. -/
def rMany {α : Type} (f : List UInt8 → Rd α) : Nat → List UInt8 → Rd (List α)
  | 0, b => .ok ([], b)
  | n + 1, b => match f b with
    | .error e => .error e
    | .ok (x, r) => match rMany f n r with
      | .error e => .error e
      | .ok (l, r) => .ok (x :: l, r)
/-- What goes on behind some that were read. -/
def rOn {α : Type} (out : List α) : Rd (List α) → Rd (List α)
  | .error e => .error e
  | .ok (l, r) => .ok (out ++ l, r)
theorem rMany_step {α : Type} {f : List UInt8 → Rd α} {n : Nat} {b r : List UInt8} {x : α} (h : f b = .ok (x, r)) (out : List α) : rOn out (rMany f (n + 1) b) = rOn (out ++ [x]) (rMany f n r) := by
  rw [rMany, h]
  dsimp only
  cases rMany f n r with
  | error e => rfl
  | ok p => obtain ⟨l, q⟩ := p; simp [rOn]
theorem rMany_err {α : Type} {f : List UInt8 → Rd α} {n : Nat} {b : List UInt8} {e : Int × List UInt8} (h : f b = .error e) (out : List α) : rOn out (rMany f (n + 1) b) = .error e := by
  rw [rMany, h]; rfl
def rDl (b : List UInt8) : Rd Dl := match rNum b with
  | .error e => .error e
  | .ok (n, r) => match rNum r with
    | .error e => .error e
    | .ok (f, r) => match rNum r with
      | .error e => .error e
      | .ok (g, r) => match rNum r with
        | .error e => .error e
        | .ok (bt, r) => match rCount 12 r with
          | .error e => .error e
          | .ok (c, r) => match rMany rEn c.toNat r with
            | .error e => .error e
            | .ok (a, r) => .ok (⟨n, f, ⟨g, bt, a⟩⟩, r)
theorem rText_len {b : List UInt8} {p : List UInt8 × List UInt8} (h : rText b = .ok p) : p.2.length ≤ b.length := by
  unfold rText at h
  split at h
  · injection h with h; subst h; exact (tt_facts b 200).1
  · cases h
theorem rCount_ok {m : Int} {b : List UInt8} {p : Int × List UInt8} (h : rCount m b = .ok p) : p.2.length ≤ b.length ∧ 0 ≤ p.1 ∧ p.1 ≤ m := by
  unfold rCount at h
  cases h1 : rNum b with
  | error e => rw [h1] at h; cases h
  | ok q =>
    rw [h1] at h
    have hl := rNum_len h1
    obtain ⟨n, r⟩ := q
    dsimp only at h hl
    split at h
    · cases h
    · injection h with h
      subst h
      refine ⟨hl, ?_, by omega⟩
      unfold rNum at h1
      split at h1
      · injection h1 with h1
        injection h1 with h2 h3
        subst h2
        exact Int.natCast_nonneg _
      · cases h1
theorem rdH_app (H N : List Box) (bs r : List UInt8) : rdH (H ++ mrX bs :: N) H.length r = H ++ mrX r :: N := by
  unfold rdH
  rw [List.set_append_right _ _ (Nat.le_refl _), Nat.sub_self]; rfl
theorem mrNum_at (H : List Box) (bs : List UInt8) (hl : bs.length ≤ 1099511627776) (N : List Box) : ASpec Tryd.prog 76 [.ptr H.length 0 0] (H ++ mrX bs :: N) (RdP vi (rNum bs) fun r => H ++ mrX r :: N) := by
  have h := mrNum_spec (H := H ++ mrX bs :: N) (b := H.length) (by simp) bs hl []
  simp only [List.append_nil, rdH_app] at h
  exact h
theorem mrText_at (H : List Box) (bs : List UInt8) (hl : bs.length ≤ 1099511627776) (N : List Box) : ASpec Tryd.prog 77 [.ptr H.length 0 0] (H ++ mrX bs :: N) (RdP vs (rText bs) fun r => H ++ mrX r :: N) := by
  have h := mrText_spec (H := H ++ mrX bs :: N) (b := H.length) (by simp) bs hl []
  simp only [List.append_nil, rdH_app] at h
  exact h
theorem mrCount_at (H : List Box) (most : Int) (bs : List UInt8) (hl : bs.length ≤ 1099511627776) (N : List Box) : ASpec Tryd.prog 53 [.ptr H.length 0 0, vi most] (H ++ mrX bs :: N) (RdP vi (rCount most bs) fun r => H ++ mrX r :: N) := by
  have h := mrCount_spec (H := H ++ mrX bs :: N) (b := H.length) (by simp) most bs hl []
  simp only [List.append_nil, rdH_app] at h
  exact h
theorem mrDigest_at (H : List Box) (bs : List UInt8) (hl : bs.length ≤ 1099511627776) (N : List Box) : ASpec Tryd.prog 54 [.ptr H.length 0 0] (H ++ mrX bs :: N) (RdP (fun d => .agg (dgC d)) (rDg bs) fun r => H ++ mrX r :: N) := by
  have h := mrDigest_spec (H := H ++ mrX bs :: N) (b := H.length) (by simp) bs hl
  simp only [rdH_app] at h
  exact h
theorem appSet (H N : List Box) (i : Nat) (x : Box) : (H ++ N).set (H.length + i) x = H ++ N.set i x := by
  rw [List.set_append_right _ _ (Nat.le_add_right _ _), Nat.add_sub_cancel_left]
theorem fin_at {E : Ent} {H X : List Box} {bs r : List UInt8} {N : List Box} {v : AV} {K : AV → List Box → Prop} (hE : E.H = H ++ mrX bs :: X) (hv : Lt E.H.length v) (h : K v (H ++ mrX r :: X)) : Fin E v (H ++ mrX r :: (X ++ N)) K := by
  have h0 := fin_rd (E := E) (H := H ++ mrX bs :: X) (b := H.length) (bs := bs) (r := r) (N := N) (v := v) (K := K) (by simp) (by rw [rdH_app]; exact hE) hv (by rw [rdH_app]; exact h)
  rw [rdH_app, List.append_assoc] at h0
  exact h0

set_option maxHeartbeats 4000000 in
theorem mrDelta_spec (H : List Box) (bs : List UInt8) (hl : bs.length ≤ 1099511627776) (x1 x2 x3 x4 x5 : Box) : ASpec Tryd.prog 55 [.ptr H.length 0 0] (H ++ [mrX bs, x1, x2, x3, x4, x5]) (RdP (fun d => .agg (dlC d)) (rDl bs) fun r => H ++ [mrX r, x1, x2, x3, x4, x5]) := by
  unfold rDl
  have h0 := fun N => mrNum_at H bs (by omega) N
  cases e0 : rNum bs with
  | error e =>
    rw [e0] at h0
    dsimp only at h0 ⊢
    refine ASpec.enter Tryd.func55 rfl (fun a w => Tryd.call55 a w) Tryd.ntmps55 Tryd.results55 fun base w β hI => ?_
    refine wk wT (wA h0 (wA holM_MsgR_6 (wA DrM.mk wT))) ?_
    refine wkEnd wT ?_
    exact fin_at (X := [x1, x2, x3, x4, x5]) rfl (.v _) ⟨rfl, rfl⟩
  | ok p =>
    obtain ⟨n, r0⟩ := p
    have l0 := rNum_len e0
    dsimp only at l0
    rw [e0] at h0
    dsimp only at h0 ⊢
    have h1 := fun N => mrNum_at H r0 (by omega) N
    cases e1 : rNum r0 with
    | error e =>
      rw [e1] at h1
      dsimp only at h1 ⊢
      refine ASpec.enter Tryd.func55 rfl (fun a w => Tryd.call55 a w) Tryd.ntmps55 Tryd.results55 fun base w β hI => ?_
      refine wk wT (wA h0 (wA h1 (wA holM_MsgR_6 (wA DrM.mk wT)))) ?_
      refine wkEnd wT ?_
      exact fin_at (X := [x1, x2, x3, x4, x5]) rfl (.v _) ⟨rfl, rfl⟩
    | ok p =>
      obtain ⟨f, r1⟩ := p
      have l1 := rNum_len e1
      dsimp only at l1
      rw [e1] at h1
      dsimp only at h1 ⊢
      have h2 := fun N => mrNum_at H r1 (by omega) N
      cases e2 : rNum r1 with
      | error e =>
        rw [e2] at h2
        dsimp only at h2 ⊢
        refine ASpec.enter Tryd.func55 rfl (fun a w => Tryd.call55 a w) Tryd.ntmps55 Tryd.results55 fun base w β hI => ?_
        refine wk wT (wA h0 (wA h1 (wA h2 (wA holM_MsgR_6 (wA DrM.mk wT))))) ?_
        refine wkEnd wT ?_
        exact fin_at (X := [x1, x2, x3, x4, x5]) rfl (.v _) ⟨rfl, rfl⟩
      | ok p =>
        obtain ⟨g, r2⟩ := p
        have l2 := rNum_len e2
        dsimp only at l2
        rw [e2] at h2
        dsimp only at h2 ⊢
        have h3 := fun N => mrNum_at H r2 (by omega) N
        cases e3 : rNum r2 with
        | error e =>
          rw [e3] at h3
          dsimp only at h3 ⊢
          refine ASpec.enter Tryd.func55 rfl (fun a w => Tryd.call55 a w) Tryd.ntmps55 Tryd.results55 fun base w β hI => ?_
          refine wk wT (wA h0 (wA h1 (wA h2 (wA h3 (wA holM_MsgR_6 (wA DrM.mk wT)))))) ?_
          refine wkEnd wT ?_
          exact fin_at (X := [x1, x2, x3, x4, x5]) rfl (.v _) ⟨rfl, rfl⟩
        | ok p =>
          obtain ⟨bt, r3⟩ := p
          have l3 := rNum_len e3
          dsimp only at l3
          rw [e3] at h3
          dsimp only at h3 ⊢
          have h4 := fun N => mrCount_at H 12 r3 (by omega) N
          cases e4 : rCount 12 r3 with
          | error e =>
            rw [e4] at h4
            dsimp only at h4 ⊢
            refine ASpec.enter Tryd.func55 rfl (fun a w => Tryd.call55 a w) Tryd.ntmps55 Tryd.results55 fun base w β hI => ?_
            refine wk wT (wA h0 (wA h1 (wA h2 (wA h3 (wA h4 (wA holM_MsgR_6 (wA DrM.mk wT))))))) ?_
            refine wkEnd wT ?_
            exact fin_at (X := [x1, x2, x3, x4, x5]) rfl (.v _) ⟨rfl, rfl⟩
          | ok p =>
            obtain ⟨c, r4⟩ := p
            have l4 := rCount_ok e4
            dsimp only at l4
            rw [e4] at h4
            dsimp only at h4 ⊢
            refine ASpec.enter Tryd.func55 rfl (fun a w => Tryd.call55 a w) Tryd.ntmps55 Tryd.results55 fun base w β hI => ?_
            refine wk wT (wA h0 (wA h1 (wA h2 (wA h3 (wA h4 (wA holM_MsgR_6 (wA DrM.mk wT))))))) ?_
            clear h0 h1 h2 h3 h4 e0 e1 e2 e3 e4
            have hc0 := l4.2.1
            have hc1 := l4.2.2
            have hl4 : r4.length ≤ bs.length := by omega
            clear l0 l1 l2 l3 l4
            generalize hR : rMany rEn c.toNat r4 = R
            have hR0 : R = rOn [] (rMany rEn (c.toNat - 0) r4) := by rw [Nat.sub_zero, hR]; cases R with | error e => rfl | ok p => rfl
            clear hR
            refine AWP.loop (ι := {p : Nat × List UInt8 × List En // (p.1 : Int) ≤ c ∧ p.2.1.length ≤ bs.length ∧ p.2.2.length = p.1 ∧ R = rOn p.2.2 (rMany rEn (c.toNat - p.1) p.2.1)}) (fun p => ⟨[(0, .ptr H.length 0 0), (2, .ptr (H.length + 6) 0 0), (7, .ptr (H.length + 7) 0 0), (25, vi c), (26, vi p.1.1)], H ++ [mrX p.1.2.1, x1, x2, x3, x4, x5, ⟨[vi 0, vi 0, vi 0, vi 0, .emp], 0, 0, false⟩, ⟨[vi n, vi f, vi g, vi bt, .sl (H.length + 8) p.1.2.2.length 0 p.1.2.2.length 3 false], 0, 0, false⟩, ⟨enF p.1.2.2, 0, p.1.2.2.length, true⟩]⟩) (fun p => c.toNat - p.1.1) ⟨(0, r4, []), by simpa using hc0, hl4, rfl, hR0⟩ ?_ ?_
            · dsimp only
              refine Coe.trans (Coe.empCell (k := H.length + 7) (j := 4) 3 (appAt _ _ 7 rfl) rfl) ?_
              rw [List.append_assoc, appSet _ _ 7]
              simp only [List.length_append, List.length_cons, List.length_nil, Nat.reduceAdd, List.cons_append, List.nil_append, List.set_cons_succ, List.set_cons_zero]
              exact Coe.kp
            · rintro ⟨⟨i, cur, out⟩, hi, hcl, ho, he⟩
              dsimp only at hi hcl ho he ⊢
              by_cases hc : (i : Int) < c
              · obtain ⟨m, hm⟩ : ∃ m, c.toNat - i = m + 1 := ⟨c.toNat - i - 1, by omega⟩
                have hm' : m = c.toNat - (i + 1) := by omega
                rw [hm] at he
                have g0 := fun N => mrNum_at H cur (by omega) N
                cases u0 : rNum cur with
                | error e =>
                  rw [rMany_err (show rEn cur = .error e by unfold rEn; rw [u0])] at he
                  subst he
                  rw [u0] at g0
                  try dsimp only at g0 ⊢
                  refine wk (wA hc wT) (wA g0 (wA holM_MsgR_6 (wA DrM.mk wT))) ?_
                  refine wkEnd wT ?_
                  exact fin_at (X := [x1, x2, x3, x4, x5]) rfl (.v _) ⟨rfl, rfl⟩
                | ok p =>
                  obtain ⟨k, q0⟩ := p
                  have v0 := rNum_len u0
                  dsimp only at v0
                  rw [u0] at g0
                  try dsimp only at g0
                  have g1 := fun N => mrNum_at H q0 (by omega) N
                  cases u1 : rNum q0 with
                  | error e =>
                    rw [rMany_err (show rEn cur = .error e by unfold rEn; rw [u0]; dsimp only; rw [u1])] at he
                    subst he
                    rw [u1] at g1
                    try dsimp only at g1 ⊢
                    refine wk (wA hc wT) (wA g0 (wA g1 (wA holM_MsgR_6 (wA DrM.mk wT)))) ?_
                    refine wkEnd wT ?_
                    exact fin_at (X := [x1, x2, x3, x4, x5]) rfl (.v _) ⟨rfl, rfl⟩
                  | ok p =>
                    obtain ⟨v, q1⟩ := p
                    have v1 := rNum_len u1
                    dsimp only at v1
                    rw [u1] at g1
                    try dsimp only at g1
                    have g2 := fun N => mrText_at H q1 (by omega) N
                    cases u2 : rText q1 with
                    | error e =>
                      rw [rMany_err (show rEn cur = .error e by unfold rEn; rw [u0]; dsimp only; rw [u1]; dsimp only; rw [u2])] at he
                      subst he
                      rw [u2] at g2
                      try dsimp only at g2 ⊢
                      refine wk (wA hc wT) (wA g0 (wA g1 wT)) ?_
                      refine AWP.drawP 6 [0, 1, 2, 3, 4, 5] [] rfl (by decide +kernel) rfl rfl (Keeps.kp wT) ?_
                      simp only [pickO, List.filterMap_cons, List.filterMap_nil, List.getElem?_cons_succ, List.getElem?_cons_zero]
                      refine wk wT wT ?_
                      simp only [pan1, go_sem, Nat.reduceBEq, Nat.reduceLT, Nat.reduceEqDiff, reduceIte, Nat.reduceAdd, Nat.reduceMul, Nat.reduceSub, Nat.reduceLeDiff, Int.reduceToNat, Int.reducePow, Int.reduceLT, Int.reduceEq, Int.reduceNeg, Nat.reducePow, List.reduceReplicate, Int.reduceLE]
                      refine ⟨_, _, g2 [_, _, _, _, _, _, _, _] base, ?_⟩
                      simp only [AExit.then, AExit.inBlock, bodyQ]
                      exact fin_at (X := [x1, x2, x3, x4, x5]) rfl (.v _) ⟨rfl, rfl⟩
                    | ok p =>
                      obtain ⟨s, q2⟩ := p
                      have v2 := rText_len u2
                      dsimp only at v2
                      rw [u2] at g2
                      try dsimp only at g2
                      rw [rMany_step (show rEn cur = .ok (⟨k, v, s⟩, q2) by unfold rEn; rw [u0]; dsimp only; rw [u1]; dsimp only; rw [u2])] at he
                      have ha1 : (out.length + 1) * 32 ≤ 140737488355328 := cap32 (by omega)
                      have s2 : enF out ++ [vi k, vi v, vs s] = enF (out ++ [⟨k, v, s⟩]) := enF_snoc out ⟨k, v, s⟩
                      have l1 : (out ++ [(⟨k, v, s⟩ : En)]).length = out.length + 1 := by simp
                      refine wk (wA hc (wA ha1 (wA s2 wT))) (wA g0 (wA g1 (wA g2 (wA holM_MsgR_6 (wA DrM.mk wT))))) ?_
                      refine ⟨⟨(i + 1, q2, out ++ [⟨k, v, s⟩]), by dsimp only; omega, by dsimp only; omega, by dsimp only; omega, by dsimp only; rw [← hm']; exact he⟩, ?_, by dsimp only; omega⟩
                      dsimp only
                      rw [l1]
                      exact Coe.kp
              · obtain hz : c.toNat - i = 0 := by omega
                rw [hz, rMany, rOn, List.append_nil] at he
                subst he
                refine AWP.coe (Coe.freezeCell (k := H.length + 7) (j := 4) (m := H.length + 8) (g := out.length) (n := out.length) (sz := 3) (G := enG out) (appAt _ _ 7 rfl) rfl (appAt _ _ 8 rfl) rfl (by omega) (by dsimp only; rw [enF_length]; exact Nat.le_refl _) (chunk_enF out)) ?_
                rw [appSet _ _ 8, appSet _ _ 7]
                simp only [List.set_cons_succ, List.set_cons_zero]
                refine wk (wA hc wT) (wA holM_MsgR_6 (wA DrM.mk wT)) ?_
                refine wkEnd wT ?_
                exact fin_at (X := [x1, x2, x3, x4, x5]) rfl (.agg _ fun i c hi => by rcases i with _ | _ | _ | _ | _ | i <;> simp at hi <;> subst hi <;> first | exact .v _ | exact lt_en _) ⟨rfl, rfl⟩

end Go.Proofs.YtjkdahpoalnjjaaDoor.VL

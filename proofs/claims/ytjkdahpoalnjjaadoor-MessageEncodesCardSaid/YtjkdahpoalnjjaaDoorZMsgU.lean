/- Layer 20: the program's reader of payloads: talk; Decode. -/
import Derived.Test.YtjkdahpoalnjjaaDoorZCd
import Derived.Test.YtjkdahpoalnjjaaDoorZMsgT
-- STEPWISE
-- WK
-- PAN
set_option linter.unusedVariables false
set_option linter.unusedSimpArgs false
set_option maxRecDepth 10000
namespace Go.Proofs.YtjkdahpoalnjjaaDoor.VL
open Go Go.RowKit Go.Lib

theorem rMany_all {α : Type} {f : List UInt8 → Rd α} {P : α → Prop} {N : Nat} (hf : ∀ b p, b.length ≤ N → f b = .ok p → P p.1 ∧ p.2.length ≤ b.length) : ∀ (n : Nat) (b : List UInt8) (p : List α × List UInt8), b.length ≤ N → rMany f n b = .ok p → ∀ x ∈ p.1, P x
  | 0, b, p, hb, h => by injection h with h; subst h; intro x hx; cases hx
  | n + 1, b, p, hb, h => by
    rw [rMany] at h
    cases e1 : f b with
    | error e => rw [e1] at h; cases h
    | ok q =>
      rw [e1] at h
      have l1 := hf _ _ hb e1
      obtain ⟨x, r⟩ := q
      dsimp only at h l1
      cases e2 : rMany f n r with
      | error e => rw [e2] at h; cases h
      | ok q =>
        rw [e2] at h
        have l2 := rMany_all hf n r _ (by omega) e2
        obtain ⟨l, r'⟩ := q
        dsimp only at h l2
        injection h with h
        subst h
        dsimp only
        intro y hy
        rcases List.mem_cons.1 hy with rfl | hy
        · exact l1.1
        · exact l2 y hy
theorem rDl_in {b : List UInt8} {p : Dl × List UInt8} (hb : b.length ≤ 1099511627776) (h : rDl b = .ok p) : DlIn p.1 ∧ p.2.length ≤ b.length := by
  have h0 := rDl_len h
  refine ⟨⟨by omega, ?_⟩, h0.1⟩
  unfold rDl at h
  cases e1 : rNum b with
  | error e => rw [e1] at h; cases h
  | ok q =>
    rw [e1] at h
    have l1 := rNum_len e1
    obtain ⟨n, r1⟩ := q
    dsimp only at h l1
    cases e2 : rNum r1 with
    | error e => rw [e2] at h; cases h
    | ok q =>
      rw [e2] at h
      have l2 := rNum_len e2
      obtain ⟨f, r2⟩ := q
      dsimp only at h l2
      cases e3 : rNum r2 with
      | error e => rw [e3] at h; cases h
      | ok q =>
        rw [e3] at h
        have l3 := rNum_len e3
        obtain ⟨g, r3⟩ := q
        dsimp only at h l3
        cases e4 : rNum r3 with
        | error e => rw [e4] at h; cases h
        | ok q =>
          rw [e4] at h
          have l4 := rNum_len e4
          obtain ⟨bt, r4⟩ := q
          dsimp only at h l4
          cases e5 : rCount 12 r4 with
          | error e => rw [e5] at h; cases h
          | ok q =>
            rw [e5] at h
            have l5 := rCount_ok e5
            obtain ⟨c, r5⟩ := q
            dsimp only at h l5
            cases e6 : rMany rEn c.toNat r5 with
            | error e => rw [e6] at h; cases h
            | ok q =>
              rw [e6] at h
              have l6 := rMany_all (P := fun y : En => y.s.length ≤ 9223372036854775807) (N := 1099511627776) (fun b p hb h => by have := rEn_len h; exact ⟨by omega, this.1⟩) _ _ _ (by omega) e6
              obtain ⟨a, r6⟩ := q
              dsimp only at h l6
              injection h with h
              subst h
              exact l6
theorem rTkD_in {kn : Bool} {b : List UInt8} {p : List Dg × List UInt8} (h : rTkD kn b = .ok p) : p.1.length ≤ 8 ∧ p.2.length ≤ b.length := by
  unfold rTkD at h
  split at h
  · cases e5 : rCount 8 b with
    | error e => rw [e5] at h; cases h
    | ok q =>
      rw [e5] at h
      have l5 := rCount_ok e5
      obtain ⟨c, r5⟩ := q
      dsimp only at h l5
      have := rMany_len (fun b p h => rDg_len h) _ _ _ h
      omega
  · injection h with h; subst h; simp
theorem rTkL_in {tl : Bool} {b : List UInt8} {p : List Dl × List UInt8} (hb : b.length ≤ 1099511627776) (h : rTkL tl b = .ok p) : p.1.length ≤ 8 ∧ p.2.length ≤ b.length ∧ ∀ d ∈ p.1, DlIn d := by
  unfold rTkL at h
  split at h
  · cases e5 : rCount 8 b with
    | error e => rw [e5] at h; cases h
    | ok q =>
      rw [e5] at h
      have l5 := rCount_ok e5
      obtain ⟨c, r5⟩ := q
      dsimp only at h l5
      have h1 := rMany_len (fun b p h => (rDl_len h).1) _ _ _ h
      have h2 := rMany_all (P := DlIn) (N := 1099511627776) (fun b p hb h => rDl_in hb h) _ _ _ (by omega) h
      exact ⟨by omega, by omega, h2⟩
  · injection h with h; subst h; simp

theorem Fin.weak {E : Ent} {r r' : AV} {H : List Box} {K : AV → List Box → Prop} (h : ∀ w β v, Rep w H β r v → Rep w H β r' v) (hf : Fin E r' H K) : Fin E r H K :=
  let ⟨r2, H2, hs, hk⟩ := hf
  ⟨r2, H2, fun w β v a b c => hs w β v a b (h _ _ _ c), hk⟩
/-- Slices without elements, as ones that are only read. -/
theorem rep_tkZ {w : World} {H : List Box} {β : Pl} {a : AV} {x : Value} (h : Rep w H β (.agg [a, .emp, .emp]) x) : Rep w H β (.agg [a, .lst 3 [], .lst 5 []]) x := by
  cases h with
  | agg _ vs hl h =>
    refine .agg _ vs (by simpa using hl) fun i c y hc hy => ?_
    rcases i with _ | _ | _ | i
    · simp at hc; subst hc; exact h 0 _ y rfl hy
    · simp at hc; subst hc
      have h1 := h 1 _ y rfl hy
      cases h1 with
      | emp a => exact .lst0 _ _ _
    · simp at hc; subst hc
      have h1 := h 2 _ y rfl hy
      cases h1 with
      | emp a => exact .lst0 _ _ _
    · simp at hc
theorem rep_tkZ2 {w : World} {H : List Box} {β : Pl} {a b : AV} {x : Value} (h : Rep w H β (.tup [.agg [a, .emp, .emp], b]) x) : Rep w H β (.tup [.agg [a, .lst 3 [], .lst 5 []], b]) x := by
  cases h with
  | tup _ vs hl h =>
    refine .tup _ vs (by simpa using hl) fun i c y hc hy => ?_
    rcases i with _ | _ | i
    · simp at hc; subst hc; exact rep_tkZ (h 0 _ y rfl hy)
    · simp at hc; subst hc; exact h 1 _ y rfl hy
    · simp at hc
theorem lt_tkA {n : Nat} (t : Tk) : Lt n (.agg (tkC t)) := .agg _ fun i c hi => by
  rcases i with _ | _ | _ | i <;> simp at hi <;> subst hi <;> first | exact .v _ | exact lt_dg _ | exact lt_dl _
theorem lt_tk2 {n : Nat} (t : Tk) (e : Int) : Lt n (.tup [.agg (tkC t), vi e]) := .tup _ fun i c hi => by
  rcases i with _ | _ | i <;> simp at hi <;> subst hi <;> first | exact .v _ | exact lt_tkA _
abbrev tkR (t : Tk) (e : Int) : AV := .tup [.agg (tkC t), vi e]
theorem fin_tk {E : Ent} {H : List Box} {bs r : List UInt8} {N : List Box} {t : Tk} {e : Int} {K : AV → List Box → Prop} (hE : E.H = H ++ [mrX bs]) (h : K (tkR t e) (H ++ [mrX r])) : Fin E (tkR t e) (H ++ mrX r :: N) K :=
  fin_at (X := []) hE (lt_tk2 t e) h
theorem fin_tkZ {E : Ent} {H : List Box} {bs r : List UInt8} {N : List Box} {e : Int} {K : AV → List Box → Prop} (hE : E.H = H ++ [mrX bs]) (h : K (tkR tkZ e) (H ++ [mrX r])) : Fin E (.tup [.agg [vi 0, .emp, .emp], vi e]) (H ++ mrX r :: N) K :=
  Fin.weak (fun _ _ _ h => rep_tkZ2 h) (fin_tk (t := tkZ) hE h)

abbrev TkK (H : List Box) (x : Tk × Int × List UInt8) : Out → List Box → Prop := fun o H' => o = .ret (tkR x.1 x.2.1) ∧ H' = H ++ [mrX x.2.2]
abbrev tkCaps (n : Nat) : List AV := [.ptr (n + 2) 0 0, .ptr (n + 3) 0 0]
theorem talk_pan {E : Ent} {H : List Box} {bs : List UInt8} (hE : E.H = H ++ [mrX bs]) {x1 : Box} {e : Int × List UInt8} {v : AV} {σ : ASt} (h : TkPan H x1 e v σ) :
    dQ Tryd.prog E 52 (tkCaps H.length) [.cell 6 27, .cell 7 28] (TkK H (tkZ, e.1, e.2)) (.panic v) σ := by
  obtain ⟨rfl, h6, h7, c0, c1, c2, x4, x5, hH⟩ := h
  refine ⟨_, _, rfl, by rw [hH]; exact talkD_pan H e.1 0 c0 c1 c2 _ x1 x4 x5, _, ?_, fin_tkZ hE ⟨rfl, rfl⟩⟩
  simp only [h6, h7, go_sem, Nat.reduceBEq, Nat.reduceLT, Nat.reduceEqDiff, reduceIte, Nat.reduceAdd, Nat.reduceMul, Nat.reduceSub, Nat.reduceLeDiff, Int.reduceToNat, Int.reducePow, Int.reduceLT, Int.reduceEq, Int.reduceNeg, Nat.reducePow, List.reduceReplicate, Int.reduceLE]

def Qt0 (E : Ent) (H : List Box) (k : Int) (kn tl : Bool) (bs : List UInt8) : AExit → ASt → Prop
  | .normal, σ => Coe E σ ⟨tkS H.length, H ++ [mrX bs, shB kn tl, ⟨[vi k, .emp, .emp], 0, 0, false⟩, ⟨[vi 0], 0, 0, false⟩, ⟨[], 0, 0, true⟩, ⟨[], 0, 0, true⟩]⟩
  | _, _ => False

set_option maxHeartbeats 4000000 in
theorem talk_spec (H : List Box) (k : Int) (kn tl : Bool) (bs : List UInt8) (hl : bs.length ≤ 1099511627776) : ASpec Tryd.prog 26 [.ptr H.length 0 0, vi k, .agg [vb kn, vb tl]] (H ++ [mrX bs]) (TkK H (decT k kn tl bs)) := by
  intro base
  refine acall_bodyD (l1 := [(7, .ptr (H.length + 3) 0 0), (6, .ptr (H.length + 2) 0 0), (5, .ptr (H.length + 1) 0 0), (0, .ptr H.length 0 0), (1, vi k), (2, .agg [vb kn, vb tl])])
    (H1 := H ++ [mrX bs, shB kn tl, ⟨[vi 0, .emp, .emp], 0, 0, false⟩, ⟨[vi 0], 0, 0, false⟩])
    Tryd.func26 rfl (fun a w => Tryd.call26 a w) Tryd.ntmps26 Tryd.results26 (by simp) rfl rfl rfl rfl rfl rfl (by decide) (fun a w => Tryd.call52 a w) ?_ ?_
  · intro w β hI
    simp only [number]
    refine wk wT (wA DrM.mk wT) ?_
    refine ⟨?_, ?_⟩ <;> first | trivial | rfl
  · intro w0 β0 hI0 w β hI ds
    generalize hE0 : (⟨base, 51, w0, H ++ [mrX bs], β0, hI0, []⟩ : Ent) = E0
    have hE : E0.H = H ++ [mrX bs] := by rw [← hE0]
    clear hE0
    show AWP Tryd.prog _ _ (dQ Tryd.prog E0 _ (tkCaps H.length) [.cell 6 27, .cell 7 28] _) _
    refine AWP.coe (Coe.trans Coe.newB Coe.newB) ?_
    refine AWP.cut (Qx := Qt0 ⟨base, 51, w, H ++ [mrX bs, shB kn tl, ⟨[vi 0, .emp, .emp], 0, 0, false⟩, ⟨[vi 0], 0, 0, false⟩], β, hI, ds⟩ H k kn tl bs) ?_ (fun σ hσ => ?_) (fun _ _ h => h.elim) (fun _ h => h.elim) (fun _ _ h => h) (fun _ _ h => h)
    · refine wk wT (wA DrM.mk wT) ?_
      unfold Qt0
      exact Coe.kp
    · refine AWP.coe hσ ?_
      unfold decT rTk
      refine AWP.cut (talkA rfl _ rfl H k kn tl bs hl) (fun σ hσ => ?_) (fun v σ hσ => ?_) (fun _ h => h.elim) (fun _ _ h => h) (fun _ _ h => h)
      · obtain ⟨d, r, x4, e1, hσ⟩ := hσ
        have l1 := rTkD_in e1
        dsimp only at l1
        rw [e1]
        dsimp only
        refine AWP.coe hσ ?_
        refine AWP.cut (talkB rfl _ rfl H k kn tl d x4 r (by omega)) (fun σ hσ => ?_) (fun v σ hσ => ?_) (fun _ h => h.elim) (fun _ _ h => h) (fun _ _ h => h)
        · obtain ⟨l, q, x4', x5, e2, hσ⟩ := hσ
          have l2 := rTkL_in (by omega) e2
          dsimp only at l2
          rw [e2]
          dsimp only
          refine AWP.coe hσ ?_
          have hR := fun H => tkRight_spec ⟨k, d, l⟩ ⟨by dsimp only; omega, by dsimp only; omega, l2.2.2⟩ H
          have hlq : q.length ≤ 1099511627776 := by omega
          clear e1 e2 l1 l2 hσ
          by_cases hq : 0 < q.length
          · have hq' : (0 : Int) < (q.length : Int) := by omega
            rw [if_pos (.inl hq)]
            refine wk (wA hq' wT) (wA DrM.mk wT) ?_
            unfold dQ
            refine ⟨_, talkD_ret _ _ _, _, ?_, fin_tkZ hE ⟨rfl, rfl⟩⟩
            simp only [go_sem, Nat.reduceBEq, Nat.reduceLT, Nat.reduceEqDiff, reduceIte, Nat.reduceAdd, Nat.reduceMul, Nat.reduceSub, Nat.reduceLeDiff, Int.reduceToNat, Int.reducePow, Int.reduceLT, Int.reduceEq, Int.reduceNeg, Nat.reducePow, List.reduceReplicate, Int.reduceLE]
          · have hq' : ¬ (0 : Int) < (q.length : Int) := by omega
            cases hok : tkOk ⟨k, d, l⟩ with
            | false =>
              rw [hok] at hR
              rw [if_pos (.inr rfl)]
              refine wk (wA hq' wT) (wA hR (wA DrM.mk wT)) ?_
              unfold dQ
              refine ⟨_, talkD_ret _ _ _, _, ?_, fin_tkZ hE ⟨rfl, rfl⟩⟩
              simp only [go_sem, Nat.reduceBEq, Nat.reduceLT, Nat.reduceEqDiff, reduceIte, Nat.reduceAdd, Nat.reduceMul, Nat.reduceSub, Nat.reduceLeDiff, Int.reduceToNat, Int.reducePow, Int.reduceLT, Int.reduceEq, Int.reduceNeg, Nat.reducePow, List.reduceReplicate, Int.reduceLE]
            | true =>
              rw [hok] at hR
              rw [if_neg (fun h => h.elim hq (fun h => by cases h))]
              refine wk (wA hq' wT) (wA hR (wA DrM.mk wT)) ?_
              unfold dQ
              refine ⟨_, talkD_ret _ _ _, _, ?_, fin_tk (t := ⟨k, d, l⟩) hE ⟨rfl, rfl⟩⟩
              simp only [go_sem, Nat.reduceBEq, Nat.reduceLT, Nat.reduceEqDiff, reduceIte, Nat.reduceAdd, Nat.reduceMul, Nat.reduceSub, Nat.reduceLeDiff, Int.reduceToNat, Int.reducePow, Int.reduceLT, Int.reduceEq, Int.reduceNeg, Nat.reducePow, List.reduceReplicate, Int.reduceLE]
        · obtain ⟨e, e2, h⟩ := hσ
          rw [e2]
          exact talk_pan hE h
      · obtain ⟨e, e1, h⟩ := hσ
        rw [e1]
        exact talk_pan hE h

end Go.Proofs.YtjkdahpoalnjjaaDoor.VL

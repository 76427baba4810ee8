/- Layer 20: the program's reader of payloads: talk's two loops. -/
import Derived.Test.YtjkdahpoalnjjaaDoorZCd
import Derived.Test.YtjkdahpoalnjjaaDoorZMf
-- STEPWISE
-- WK
-- PAN
-- HWR
-- HOLE 6 0 [(.same, [0]), (.same, [0]), (.same, []), (.wr 0, []), (.same, []), (.wr 4, []), (.same, []), (.wr 2, [])]
-- HOLE 11 0 [(.same, [0]), (.same, [0]), (.same, []), (.wr 0, []), (.same, []), (.wr 5, []), (.same, []), (.wr 2, [])]
set_option linter.unusedVariables false
set_option linter.unusedSimpArgs false
set_option maxRecDepth 10000
namespace Go.Proofs.YtjkdahpoalnjjaaDoor.VL
open Go Go.RowKit Go.Lib

theorem holM_MsgT_6 : HolM 6 0 [(.same, [0]), (.same, [0]), (.same, []), (.wr 0, []), (.same, []), (.wr 4, []), (.same, []), (.wr 2, [])] := ⟨⟩
theorem holM_MsgT_11 : HolM 11 0 [(.same, [0]), (.same, [0]), (.same, []), (.wr 0, []), (.same, []), (.wr 5, []), (.same, []), (.wr 2, [])] := ⟨⟩

/-- A piece of code: ahead (0) or behind (1); where a condition holds (2) or not (3); in a loop or a block (4). -/
def nav : List Nat → Code → Option Code
  | [], c => some c
  | 0 :: r, .seq x _ => nav r x
  | 1 :: r, .seq _ y => nav r y
  | 2 :: r, .cond _ x _ => nav r x
  | 3 :: r, .cond _ _ y => nav r y
  | 4 :: r, .loop c => nav r c
  | 4 :: r, .block _ c => nav r c
  | _, _ => none
/-- Code in two parts. -/
theorem AWP.cut {P : Program} {E : Ent} {x y : Code} {Q Qx : AExit → ASt → Prop} {σ : ASt} (h : AWP P E x Qx σ) (h1 : ∀ σ, Qx .normal σ → AWP P E y Q σ) (h2 : ∀ v σ, Qx (.panic v) σ → Q (.panic v) σ) (h3 : ∀ σ, Qx .ret σ → Q .ret σ) (h4 : ∀ i σ, ¬ Qx (.exit i) σ) (h5 : ∀ i σ, ¬ Qx (.goto i) σ) : AWP P E (.seq x y) Q σ :=
  AWP.seq (h.mono fun e σ hq => by
    cases e with
    | normal => exact h1 σ hq
    | panic v => exact h2 v σ hq
    | ret => exact h3 σ hq
    | exit i => exact (h4 i σ hq).elim
    | goto i => exact (h5 i σ hq).elim)
/-- An empty slice in a cell, as one of a box that is there. -/
theorem Coe.empAt {E : Ent} {l : List (Nat × AV)} {H : List Box} {k j m : Nat} {bx : Box} (sz : Nat) (hb : H[k]? = some bx) (hj : bx.cells[j]? = some .emp) (hm : H[m]? = some ⟨[], 0, 0, true⟩) :
    Coe E ⟨l, H⟩ ⟨l, H.set k ⟨bx.cells.set j (.sl m 0 0 0 sz false), bx.ro, bx.gen, bx.grow⟩⟩ :=
  Coe.cell hb hj fun w β x hI hr => by
    cases hr with
    | emp a => exact rep_sl (bx := ⟨[], 0, 0, true⟩) hm rfl ⟨a, 0, rfl, Nat.le_refl _, by simp, fun hh => absurd hh (by omega)⟩
theorem Coe.empLst {E : Ent} {l : List (Nat × AV)} {H : List Box} {k j : Nat} {bx : Box} (sz : Nat) (hb : H[k]? = some bx) (hj : bx.cells[j]? = some .emp) :
    Coe E ⟨l, H⟩ ⟨l, H.set k ⟨bx.cells.set j (.lst sz []), bx.ro, bx.gen, bx.grow⟩⟩ :=
  Coe.cell hb hj fun w β x hI hr => by
    cases hr with
    | emp a => exact .lst0 _ _ _
/-- What is left where the reading of a talk panics. -/
def TkPan (H : List Box) (x1 : Box) (e : Int × List UInt8) (v : AV) (σ : ASt) : Prop :=
  v = wrongV e.1 ∧ lk σ.tmps 6 = .ptr (H.length + 2) 0 0 ∧ lk σ.tmps 7 = .ptr (H.length + 3) 0 0 ∧ ∃ (c0 c1 c2 : AV) (x4 x5 : Box), σ.H = H ++ [mrX e.2, x1, ⟨[c0, c1, c2], 0, 0, false⟩, ⟨[vi 0], 0, 0, false⟩, x4, x5]
abbrev shB (kn tl : Bool) : Box := ⟨[vb kn, vb tl], 0, 0, false⟩
abbrev tkS (n : Nat) : List (Nat × AV) := [(0, .ptr n 0 0), (5, .ptr (n + 1) 0 0), (6, .ptr (n + 2) 0 0), (7, .ptr (n + 3) 0 0)]
def QtA (E : Ent) (H : List Box) (k : Int) (kn tl : Bool) (bs : List UInt8) : AExit → ASt → Prop
  | .normal, σ => ∃ d r x4, rTkD kn bs = .ok (d, r) ∧ Coe E σ ⟨tkS H.length, H ++ [mrX r, shB kn tl, ⟨[vi k, .lst 3 (dgG d), .emp], 0, 0, false⟩, ⟨[vi 0], 0, 0, false⟩, x4, ⟨[], 0, 0, true⟩]⟩
  | .panic v, σ => ∃ e, rTkD kn bs = .error e ∧ TkPan H (shB kn tl) e v σ
  | _, _ => False
def QtB (E : Ent) (H : List Box) (k : Int) (kn tl : Bool) (dg : List Dg) (bs : List UInt8) : AExit → ASt → Prop
  | .normal, σ => ∃ d r x4 x5, rTkL tl bs = .ok (d, r) ∧ Coe E σ ⟨tkS H.length, H ++ [mrX r, shB kn tl, ⟨[vi k, .lst 3 (dgG dg), .lst 5 (dlG d)], 0, 0, false⟩, ⟨[vi 0], 0, 0, false⟩, x4, x5]⟩
  | .panic v, σ => ∃ e, rTkL tl bs = .error e ∧ TkPan H (shB kn tl) e v σ
  | _, _ => False
theorem cap24 {n : Nat} (h : n ≤ 10) : n * 24 ≤ 140737488355328 := by omega
theorem cap56 {n : Nat} (h : n ≤ 10) : n * 56 ≤ 140737488355328 := by omega

set_option maxHeartbeats 4000000 in
theorem talkA {cA : Code} (hc : (Tryd.f26.body).bind (nav [1, 1, 1, 0]) = some cA) (E : Ent) (hn : E.n = 51) (H : List Box) (k : Int) (kn tl : Bool) (bs : List UInt8) (hl : bs.length ≤ 1099511627776) :
    AWP Tryd.prog E cA (QtA E H k kn tl bs) ⟨tkS H.length, H ++ [mrX bs, shB kn tl, ⟨[vi k, .emp, .emp], 0, 0, false⟩, ⟨[vi 0], 0, 0, false⟩, ⟨[], 0, 0, true⟩, ⟨[], 0, 0, true⟩]⟩ := by
  injection hc with hc
  subst hc
  cases kn with
  | false =>
    refine wk (wA hn wT) (wA holM_MsgT_6 (wA holM_MsgT_11 (wA DrM.mk wT))) ?_
    refine ⟨[], bs, ⟨[], 0, 0, true⟩, rfl, ?_⟩
    refine Coe.trans (Coe.empLst (k := H.length + 2) (j := 1) 3 (appAt _ _ 2 rfl) rfl) ?_
    rw [appSet _ _ 2]
    simp only [List.set_cons_succ, List.set_cons_zero]
    exact Coe.kp
  | true =>
    have h4 := fun N => mrCount_at H 8 bs (by omega) N
    have hD : rTkD true bs = (match rCount 8 bs with
      | .error e => .error e
      | .ok (c, r) => rMany rDg c.toNat r) := rfl
    cases e4 : rCount 8 bs with
    | error e =>
      rw [e4] at h4 hD
      dsimp only at h4 hD
      refine wk (wA hn wT) (wA h4 (wA holM_MsgT_6 (wA holM_MsgT_11 (wA DrM.mk wT)))) ?_
      exact ⟨e, hD, rfl, rfl, rfl, _, _, _, _, _, rfl⟩
    | ok p =>
      obtain ⟨c, r4⟩ := p
      have l4 := rCount_ok e4
      dsimp only at l4
      rw [e4] at h4 hD
      dsimp only at h4 hD
      refine wk (wA hn wT) (wA h4 (wA holM_MsgT_6 (wA holM_MsgT_11 (wA DrM.mk wT)))) ?_
      clear h4 e4
      have hc0 := l4.2.1
      have hc1 := l4.2.2
      have hl4 : r4.length ≤ bs.length := l4.1
      clear l4
      have hR0 : rTkD true bs = rOn [] (rMany rDg (c.toNat - 0) r4) := by rw [Nat.sub_zero, hD]; cases rMany rDg c.toNat r4 with | error e => rfl | ok p => rfl
      clear hD
      generalize hR : rTkD true bs = R at hR0
      refine AWP.loop (ι := {p : Nat × List UInt8 × List Dg // (p.1 : Int) ≤ c ∧ p.2.1.length ≤ bs.length ∧ p.2.2.length = p.1 ∧ R = rOn p.2.2 (rMany rDg (c.toNat - p.1) p.2.1)}) (fun p => ⟨[(0, .ptr H.length 0 0), (5, .ptr (H.length + 1) 0 0), (6, .ptr (H.length + 2) 0 0), (7, .ptr (H.length + 3) 0 0), (14, vi c), (15, vi p.1.1)], H ++ [mrX p.1.2.1, shB true tl, ⟨[vi k, .sl (H.length + 4) p.1.2.2.length 0 p.1.2.2.length 3 false, .emp], 0, 0, false⟩, ⟨[vi 0], 0, 0, false⟩, ⟨dgF p.1.2.2, 0, p.1.2.2.length, true⟩, ⟨[], 0, 0, true⟩]⟩) (fun p => c.toNat - p.1.1) ⟨(0, r4, []), by simpa using hc0, hl4, rfl, hR0⟩ ?_ ?_
      · dsimp only
        refine Coe.trans (Coe.empAt (k := H.length + 2) (j := 1) (m := H.length + 4) 3 (appAt _ _ 2 rfl) rfl (appAt _ _ 4 rfl)) ?_
        rw [appSet _ _ 2]
        simp only [List.set_cons_succ, List.set_cons_zero]
        exact Coe.kp
      · rintro ⟨⟨i, cur, out⟩, hi, hcl, ho, he⟩
        dsimp only at hi hcl ho he ⊢
        by_cases hc : (i : Int) < c
        · obtain ⟨m, hm⟩ : ∃ m, c.toNat - i = m + 1 := ⟨c.toNat - i - 1, by omega⟩
          have hm' : m = c.toNat - (i + 1) := by omega
          rw [hm] at he
          have g0 := fun N => mrDigest_at H cur (by omega) N
          cases u0 : rDg cur with
          | error e =>
            rw [rMany_err u0] at he
            rw [u0] at g0
            try dsimp only at g0
            refine wk (wA hn (wA hc wT)) wT ?_
            refine AWP.drawP 3 [0, 1, 2] [(6, .ptr (H.length + 2) 0 0), (7, .ptr (H.length + 3) 0 0)] rfl (by show panB _ _ _ [6, 7] = true; decide +kernel) rfl rfl (by simp only [Keeps, List.mem_cons, List.not_mem_nil, or_false, forall_eq_or_imp, forall_eq, lk, Nat.reduceBEq, cond_true, cond_false, and_self]) ?_
            simp only [pickO, List.filterMap_cons, List.filterMap_nil, List.getElem?_cons_succ, List.getElem?_cons_zero]
            refine wk (wA hn wT) wT ?_
            simp only [pan1, go_sem, Nat.reduceBEq, Nat.reduceLT, Nat.reduceEqDiff, reduceIte, Nat.reduceAdd, Nat.reduceMul, Nat.reduceSub, Nat.reduceLeDiff, Int.reduceToNat, Int.reducePow, Int.reduceLT, Int.reduceEq, Int.reduceNeg, Nat.reducePow, List.reduceReplicate, Int.reduceLE]
            refine ⟨_, _, g0 [_, _, _, _, _] E.base, ?_⟩
            simp only [AExit.then, AExit.inBlock]
            exact ⟨e, hR.trans he, rfl, rfl, rfl, _, _, _, _, _, rfl⟩
          | ok p =>
            obtain ⟨⟨dn, dg, dv⟩, q0⟩ := p
            have v0 := rDg_len u0
            dsimp only at v0
            rw [u0] at g0
            try dsimp only at g0
            rw [rMany_step u0] at he
            have ha1 : (out.length + 1) * 24 ≤ 140737488355328 := cap24 (by omega)
            have s2 : dgF out ++ [vi dn, vi dg, vi dv] = dgF (out ++ [⟨dn, dg, dv⟩]) := dgF_snoc out ⟨dn, dg, dv⟩
            have l1 : (out ++ [(⟨dn, dg, dv⟩ : Dg)]).length = out.length + 1 := by simp
            refine wk (wA hn (wA hc (wA ha1 (wA s2 wT)))) (wA g0 (wA holM_MsgT_6 (wA holM_MsgT_11 (wA DrM.mk wT)))) ?_
            refine ⟨⟨(i + 1, q0, out ++ [⟨dn, dg, dv⟩]), by dsimp only; omega, by dsimp only; omega, by dsimp only; omega, by dsimp only; rw [← hm']; exact he⟩, ?_, by dsimp only; omega⟩
            dsimp only
            rw [l1]
            exact Coe.kp
        · obtain hz : c.toNat - i = 0 := by omega
          rw [hz, rMany, rOn, List.append_nil] at he
          refine wk (wA hn (wA hc wT)) (wA holM_MsgT_6 (wA holM_MsgT_11 (wA DrM.mk wT))) ?_
          refine ⟨out, cur, ⟨dgF out, max 0 (out.length * 3), out.length, true⟩, hR.trans he, ?_⟩
          refine Coe.trans (Coe.freezeCell (k := H.length + 2) (j := 1) (m := H.length + 4) (g := out.length) (n := out.length) (sz := 3) (G := dgG out) (appAt _ _ 2 rfl) rfl (appAt _ _ 4 rfl) rfl (by omega) (by dsimp only; rw [dgF_length]; exact Nat.le_refl _) (chunk_dgF out)) ?_
          rw [appSet _ _ 4, appSet _ _ 2]
          simp only [List.set_cons_succ, List.set_cons_zero]
          exact Coe.kp

set_option maxHeartbeats 4000000 in
theorem talkB {cA : Code} (hc : (Tryd.f26.body).bind (nav [1, 1, 1, 1, 0]) = some cA) (E : Ent) (hn : E.n = 51) (H : List Box) (k : Int) (kn tl : Bool) (dg : List Dg) (x4 : Box) (bs : List UInt8) (hl : bs.length ≤ 1099511627776) :
    AWP Tryd.prog E cA (QtB E H k kn tl dg bs) ⟨tkS H.length, H ++ [mrX bs, shB kn tl, ⟨[vi k, .lst 3 (dgG dg), .emp], 0, 0, false⟩, ⟨[vi 0], 0, 0, false⟩, x4, ⟨[], 0, 0, true⟩]⟩ := by
  injection hc with hc
  subst hc
  cases tl with
  | false =>
    refine wk (wA hn wT) (wA holM_MsgT_6 (wA holM_MsgT_11 (wA DrM.mk wT))) ?_
    refine ⟨[], bs, x4, ⟨[], 0, 0, true⟩, rfl, ?_⟩
    refine Coe.trans (Coe.empLst (k := H.length + 2) (j := 2) 5 (appAt _ _ 2 rfl) rfl) ?_
    rw [appSet _ _ 2]
    simp only [List.set_cons_succ, List.set_cons_zero]
    exact Coe.kp
  | true =>
    have h4 := fun N => mrCount_at H 8 bs (by omega) N
    have hD : rTkL true bs = (match rCount 8 bs with
      | .error e => .error e
      | .ok (c, r) => rMany rDl c.toNat r) := rfl
    cases e4 : rCount 8 bs with
    | error e =>
      rw [e4] at h4 hD
      dsimp only at h4 hD
      refine wk (wA hn wT) (wA h4 (wA holM_MsgT_6 (wA holM_MsgT_11 (wA DrM.mk wT)))) ?_
      exact ⟨e, hD, rfl, rfl, rfl, _, _, _, _, _, rfl⟩
    | ok p =>
      obtain ⟨c, r4⟩ := p
      have l4 := rCount_ok e4
      dsimp only at l4
      rw [e4] at h4 hD
      dsimp only at h4 hD
      refine wk (wA hn wT) (wA h4 (wA holM_MsgT_6 (wA holM_MsgT_11 (wA DrM.mk wT)))) ?_
      clear h4 e4
      have hc0 := l4.2.1
      have hc1 := l4.2.2
      have hl4 : r4.length ≤ bs.length := l4.1
      clear l4
      have hR0 : rTkL true bs = rOn [] (rMany rDl (c.toNat - 0) r4) := by rw [Nat.sub_zero, hD]; cases rMany rDl c.toNat r4 with | error e => rfl | ok p => rfl
      clear hD
      generalize hR : rTkL true bs = R at hR0
      refine AWP.loop (ι := {p : Nat × List UInt8 × List Dl // (p.1 : Int) ≤ c ∧ p.2.1.length ≤ bs.length ∧ p.2.2.length = p.1 ∧ R = rOn p.2.2 (rMany rDl (c.toNat - p.1) p.2.1)}) (fun p => ⟨[(0, .ptr H.length 0 0), (5, .ptr (H.length + 1) 0 0), (6, .ptr (H.length + 2) 0 0), (7, .ptr (H.length + 3) 0 0), (28, vi c), (29, vi p.1.1)], H ++ [mrX p.1.2.1, shB kn true, ⟨[vi k, .lst 3 (dgG dg), .sl (H.length + 5) p.1.2.2.length 0 p.1.2.2.length 5 false], 0, 0, false⟩, ⟨[vi 0], 0, 0, false⟩, x4, ⟨dlF p.1.2.2, 0, p.1.2.2.length, true⟩]⟩) (fun p => c.toNat - p.1.1) ⟨(0, r4, []), by simpa using hc0, hl4, rfl, hR0⟩ ?_ ?_
      · dsimp only
        refine Coe.trans (Coe.empAt (k := H.length + 2) (j := 2) (m := H.length + 5) 5 (appAt _ _ 2 rfl) rfl (appAt _ _ 5 rfl)) ?_
        rw [appSet _ _ 2]
        simp only [List.set_cons_succ, List.set_cons_zero]
        exact Coe.kp
      · rintro ⟨⟨i, cur, out⟩, hi, hcl, ho, he⟩
        dsimp only at hi hcl ho he ⊢
        by_cases hc : (i : Int) < c
        · obtain ⟨m, hm⟩ : ∃ m, c.toNat - i = m + 1 := ⟨c.toNat - i - 1, by omega⟩
          have hm' : m = c.toNat - (i + 1) := by omega
          rw [hm] at he
          have g0 := fun y1 y2 y3 y4 y5 => mrDelta_spec H cur (by omega) y1 y2 y3 y4 y5
          cases u0 : rDl cur with
          | error e =>
            rw [rMany_err u0] at he
            rw [u0] at g0
            try dsimp only at g0
            refine wk (wA hn (wA hc wT)) wT ?_
            refine AWP.drawP 3 [0, 1, 2] [(6, .ptr (H.length + 2) 0 0), (7, .ptr (H.length + 3) 0 0)] rfl (by show panB _ _ _ [6, 7] = true; decide +kernel) rfl rfl (by simp only [Keeps, List.mem_cons, List.not_mem_nil, or_false, forall_eq_or_imp, forall_eq, lk, Nat.reduceBEq, cond_true, cond_false, and_self]) ?_
            simp only [pickO, List.filterMap_cons, List.filterMap_nil, List.getElem?_cons_succ, List.getElem?_cons_zero]
            refine wk (wA hn wT) wT ?_
            simp only [pan1, go_sem, Nat.reduceBEq, Nat.reduceLT, Nat.reduceEqDiff, reduceIte, Nat.reduceAdd, Nat.reduceMul, Nat.reduceSub, Nat.reduceLeDiff, Int.reduceToNat, Int.reducePow, Int.reduceLT, Int.reduceEq, Int.reduceNeg, Nat.reducePow, List.reduceReplicate, Int.reduceLE]
            refine ⟨_, _, g0 _ _ _ _ _ E.base, ?_⟩
            simp only [AExit.then, AExit.inBlock]
            exact ⟨e, hR.trans he, rfl, rfl, rfl, _, _, _, _, _, rfl⟩
          | ok p =>
            obtain ⟨⟨dn, df, ⟨sg, sb, sa⟩⟩, q0⟩ := p
            have v0 := (rDl_len u0).1
            dsimp only at v0
            rw [u0] at g0
            try dsimp only at g0
            rw [rMany_step u0] at he
            have ha1 : (out.length + 1) * 56 ≤ 140737488355328 := cap56 (by omega)
            have s2 : dlF out ++ [vi dn, vi df, vi sg, vi sb, .lst 3 (enG sa)] = dlF (out ++ [⟨dn, df, ⟨sg, sb, sa⟩⟩]) := dlF_snoc out ⟨dn, df, ⟨sg, sb, sa⟩⟩
            have l1 : (out ++ [(⟨dn, df, ⟨sg, sb, sa⟩⟩ : Dl)]).length = out.length + 1 := by simp
            refine wk (wA hn (wA hc (wA ha1 (wA s2 wT)))) (wA g0 (wA holM_MsgT_6 (wA holM_MsgT_11 (wA DrM.mk wT)))) ?_
            refine ⟨⟨(i + 1, q0, out ++ [⟨dn, df, ⟨sg, sb, sa⟩⟩]), by dsimp only; omega, by dsimp only; omega, by dsimp only; omega, by dsimp only; rw [← hm']; exact he⟩, ?_, by dsimp only; omega⟩
            dsimp only
            rw [l1]
            exact Coe.kp
        · obtain hz : c.toNat - i = 0 := by omega
          rw [hz, rMany, rOn, List.append_nil] at he
          refine wk (wA hn (wA hc wT)) (wA holM_MsgT_6 (wA holM_MsgT_11 (wA DrM.mk wT))) ?_
          refine ⟨out, cur, x4, ⟨dlF out, max 0 (out.length * 5), out.length, true⟩, hR.trans he, ?_⟩
          refine Coe.trans (Coe.freezeCell (k := H.length + 2) (j := 2) (m := H.length + 5) (g := out.length) (n := out.length) (sz := 5) (G := dlG out) (appAt _ _ 2 rfl) rfl (appAt _ _ 5 rfl) rfl (by omega) (by dsimp only; rw [dlF_length]; exact Nat.le_refl _) (chunk_dlF out)) ?_
          rw [appSet _ _ 5, appSet _ _ 2]
          simp only [List.set_cons_succ, List.set_cons_zero]
          exact Coe.kp

end Go.Proofs.YtjkdahpoalnjjaaDoor.VL

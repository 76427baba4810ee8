/- Layer 20: what talk's deferred closure does. -/
import Derived.Test.YtjkdahpoalnjjaaDoorZMsgR
import Derived.Test.YtjkdahpoalnjjaaDoorZCd
-- STEPWISE
-- PAN
-- ORD 0 [[0, 1, 2, 3, 4], [0, 1, 3, 2, 4], [0, 3, 1, 2, 4], [1, 0, 2, 3, 4], [1, 0, 3, 2, 4], [1, 2, 0, 3, 4]]
set_option linter.unusedVariables false
set_option linter.unusedSimpArgs false
set_option maxRecDepth 10000
namespace Go.Proofs.YtjkdahpoalnjjaaDoor.VL
open Go Go.RowKit Go.Lib

attribute [local go_sem] Tryd.underlying20

theorem appAt' (H N : List Box) (i : Nat) (x : Box) (h : N[i]? = some x) : (H ++ N)[H.length + i]? = some x := by
  rw [List.getElem?_append_right (Nat.le_add_right _ _), Nat.add_sub_cancel_left]; exact h

/-- Nothing went wrong: nothing is done. -/
theorem talkD_ret (H : List Box) (p q : AV) : DSpec Tryd.prog 52 [p, q] .returning .returning H H := by
  refine DSpec.of Tryd.func52 rfl rfl rfl rfl rfl Tryd.ntmps52 (by decide) (by simp) .ret ?_
  intro base w β hI
  simp only [number]
  repeat' (first
    | (refine AWP.seq ?_)
    | (refine AWP.block ?_)
    | (refine AWP.region_k fun Q' hQ' => ?_)
    | (refine AWP.drawO_k 0 [[0, 1, 2, 3, 4], [0, 1, 3, 2, 4], [0, 3, 1, 2, 4], [1, 0, 2, 3, 4], [1, 0, 3, 2, 4], [1, 2, 0, 3, 4]] rfl (by decide +kernel) fun Q' hQ' => ?_; try simp only [List.length_cons, List.length_nil, Nat.reduceAdd, Nat.reduceSub, List.take_succ_cons, List.take_zero, List.drop_succ_cons, List.drop_zero])
    | (with_reducible refine ord_cons ?_ ?_ <;> try simp only [pickO, List.filterMap_cons, List.filterMap_nil, List.getElem?_cons_succ, List.getElem?_cons_zero])
    | (with_reducible exact ord_nil)
    | (refine AWP.draw_k rfl (by kernel_rfl) fun Q' hQ' => ?_)
    | (with_reducible refine aops.step fun T hT => ?_; simp (disch := omega) only [go_sem, Nat.reduceBEq, Nat.reduceLT, Nat.reduceEqDiff, reduceIte, Nat.reduceAdd, Nat.reduceMul, Nat.reduceSub, Nat.reduceLeDiff, Int.reduceToNat, Int.reducePow, Int.reduceLT, Int.reduceEq, Int.reduceNeg, Nat.reducePow, List.reduceReplicate, Int.reduceLE])
    | (with_reducible refine qops.step fun T hT => ?_; simp (disch := omega) only [go_sem, Nat.reduceBEq, Nat.reduceLT, Nat.reduceEqDiff, reduceIte, Nat.reduceAdd, Nat.reduceMul, Nat.reduceSub, Nat.reduceLeDiff, Int.reduceToNat, Int.reducePow, Int.reduceLT, Int.reduceEq, Int.reduceNeg, Nat.reducePow, List.reduceReplicate, Int.reduceLE])
    | (with_reducible refine aops.nil ?_)
    | (with_reducible refine qops.nil ?_)
    | (with_reducible refine hT _ ?_; clear hT T)
    | (refine AWP.skip ?_; try simp only [AExit.then, AExit.inBlock, reduceIte, Nat.reduceEqDiff])
    | (refine AWP.exit ?_; try simp only [AExit.then, AExit.inBlock, reduceIte, Nat.reduceEqDiff])
    | (refine AWP.ret ?_; try simp only [AExit.then, AExit.inBlock, reduceIte, Nat.reduceEqDiff])
    | (refine AWP.cond rfl (fun h => ?_) (fun h => ?_) <;> (try simp only [decide_eq_true_eq, decide_eq_false_iff_not, Bool.true_eq_false, Bool.false_eq_true] at h) <;> (try contradiction))
    | (refine hQ' (AExit.panic _) _ ?_; clear hT T hQ' Q'; try simp only [AExit.then, AExit.inBlock, reduceIte, Nat.reduceEqDiff])
    | (refine hQ' (AExit.panic _) _ ?_; clear hQ' Q'; try simp only [AExit.then, AExit.inBlock, reduceIte, Nat.reduceEqDiff])
    | (refine hQ' _ _ ?_; clear hQ' Q'; try simp only [AExit.then, AExit.inBlock, reduceIte, Nat.reduceEqDiff])
    | (refine hQ' _ ?_; clear hQ' Q'; try simp only [AExit.then, AExit.inBlock, reduceIte, Nat.reduceEqDiff])
    | (with_reducible refine Branch.split (fun h => ?_) (fun h => ?_) <;> (try simp only [decide_eq_true_eq, decide_eq_false_iff_not, Bool.not_true, Bool.not_false, Bool.true_eq_false, Bool.false_eq_true] at h) <;> (try contradiction) <;> (simp (disch := omega) only [go_sem, Nat.reduceBEq, Nat.reduceLT, Nat.reduceEqDiff, reduceIte, Nat.reduceAdd, Nat.reduceMul, Nat.reduceSub, Nat.reduceLeDiff, Int.reduceToNat, Int.reducePow, Int.reduceLT, Int.reduceEq, Int.reduceNeg, Nat.reducePow, List.reduceReplicate, Int.reduceLE, h]))
    | (with_reducible intro h; try simp only [h, go_sem, Nat.reduceBEq, Nat.reduceLT, Nat.reduceEqDiff, reduceIte, Nat.reduceAdd, Nat.reduceMul, Nat.reduceSub, Nat.reduceLeDiff, Int.reduceToNat, Int.reducePow, Int.reduceLT, Int.reduceEq, Int.reduceNeg, Nat.reducePow, List.reduceReplicate, Int.reduceLE]))
  simp

/-- A wrong payload: nothing is handed back, and its reason. -/
theorem talkD_pan (H : List Box) (e y : Int) (c0 c1 c2 : AV) (x0 x1 x4 x5 : Box) : DSpec Tryd.prog 52 [.ptr (H.length + 2) 0 0, .ptr (H.length + 3) 0 0]
    (.panicking [{ v := .iface 90 (.agg #[.int .i64 e]), recovered := false }]) (.panicking [{ v := .iface 90 (.agg #[.int .i64 e]), recovered := true }])
    (H ++ [x0, x1, ⟨[c0, c1, c2], 0, 0, false⟩, ⟨[vi y], 0, 0, false⟩, x4, x5]) (H ++ [x0, x1, ⟨[vi 0, .emp, .emp], 0, 0, false⟩, ⟨[vi e], 0, 0, false⟩, x4, x5, ⟨[vi e], 0, 0, false⟩]) := by
  refine DSpec.of Tryd.func52 rfl rfl rfl rfl rfl Tryd.ntmps52 (by decide) (by simp) (.pan _) ?_
  intro base w β hI
  simp only [number]
  repeat' (first
    | (refine AWP.seq ?_)
    | (refine AWP.block ?_)
    | (refine AWP.region_k fun Q' hQ' => ?_)
    | (refine AWP.drawO_k 0 [[0, 1, 2, 3, 4], [0, 1, 3, 2, 4], [0, 3, 1, 2, 4], [1, 0, 2, 3, 4], [1, 0, 3, 2, 4], [1, 2, 0, 3, 4]] rfl (by decide +kernel) fun Q' hQ' => ?_; try simp only [List.length_cons, List.length_nil, Nat.reduceAdd, Nat.reduceSub, List.take_succ_cons, List.take_zero, List.drop_succ_cons, List.drop_zero])
    | (with_reducible refine ord_cons ?_ ?_ <;> try simp only [pickO, List.filterMap_cons, List.filterMap_nil, List.getElem?_cons_succ, List.getElem?_cons_zero])
    | (with_reducible exact ord_nil)
    | (refine AWP.draw_k rfl (by kernel_rfl) fun Q' hQ' => ?_)
    | (with_reducible refine aops.step fun T hT => ?_; simp (disch := omega) only [go_sem, Nat.reduceBEq, Nat.reduceLT, Nat.reduceEqDiff, reduceIte, Nat.reduceAdd, Nat.reduceMul, Nat.reduceSub, Nat.reduceLeDiff, Int.reduceToNat, Int.reducePow, Int.reduceLT, Int.reduceEq, Int.reduceNeg, Nat.reducePow, List.reduceReplicate, Int.reduceLE])
    | (with_reducible refine qops.step fun T hT => ?_; simp (disch := omega) only [go_sem, Nat.reduceBEq, Nat.reduceLT, Nat.reduceEqDiff, reduceIte, Nat.reduceAdd, Nat.reduceMul, Nat.reduceSub, Nat.reduceLeDiff, Int.reduceToNat, Int.reducePow, Int.reduceLT, Int.reduceEq, Int.reduceNeg, Nat.reducePow, List.reduceReplicate, Int.reduceLE])
    | (with_reducible refine aops.nil ?_)
    | (with_reducible refine qops.nil ?_)
    | (with_reducible refine hT _ ?_; clear hT T)
    | (refine AWP.skip ?_; try simp only [AExit.then, AExit.inBlock, reduceIte, Nat.reduceEqDiff])
    | (refine AWP.exit ?_; try simp only [AExit.then, AExit.inBlock, reduceIte, Nat.reduceEqDiff])
    | (refine AWP.ret ?_; try simp only [AExit.then, AExit.inBlock, reduceIte, Nat.reduceEqDiff])
    | (refine AWP.cond rfl (fun h => ?_) (fun h => ?_) <;> (try simp only [decide_eq_true_eq, decide_eq_false_iff_not, Bool.true_eq_false, Bool.false_eq_true] at h) <;> (try contradiction))
    | (refine hQ' (AExit.panic _) _ ?_; clear hT T hQ' Q'; try simp only [AExit.then, AExit.inBlock, reduceIte, Nat.reduceEqDiff])
    | (refine hQ' (AExit.panic _) _ ?_; clear hQ' Q'; try simp only [AExit.then, AExit.inBlock, reduceIte, Nat.reduceEqDiff])
    | (refine hQ' _ _ ?_; clear hQ' Q'; try simp only [AExit.then, AExit.inBlock, reduceIte, Nat.reduceEqDiff])
    | (refine hQ' _ ?_; clear hQ' Q'; try simp only [AExit.then, AExit.inBlock, reduceIte, Nat.reduceEqDiff])
    | (with_reducible refine Branch.split (fun h => ?_) (fun h => ?_) <;> (try simp only [decide_eq_true_eq, decide_eq_false_iff_not, Bool.not_true, Bool.not_false, Bool.true_eq_false, Bool.false_eq_true] at h) <;> (try contradiction) <;> (simp (disch := omega) only [go_sem, Nat.reduceBEq, Nat.reduceLT, Nat.reduceEqDiff, reduceIte, Nat.reduceAdd, Nat.reduceMul, Nat.reduceSub, Nat.reduceLeDiff, Int.reduceToNat, Int.reducePow, Int.reduceLT, Int.reduceEq, Int.reduceNeg, Nat.reducePow, List.reduceReplicate, Int.reduceLE, h]))
    | (with_reducible intro h; try simp only [h, go_sem, Nat.reduceBEq, Nat.reduceLT, Nat.reduceEqDiff, reduceIte, Nat.reduceAdd, Nat.reduceMul, Nat.reduceSub, Nat.reduceLeDiff, Int.reduceToNat, Int.reducePow, Int.reduceLT, Int.reduceEq, Int.reduceNeg, Nat.reducePow, List.reduceReplicate, Int.reduceLE]))
  all_goals simp

end Go.Proofs.YtjkdahpoalnjjaaDoor.VL

/- Layer 20: the program's reader of payloads: what is read of a talk, as plain values. -/
set_option linter.unusedVariables false
set_option linter.unusedSimpArgs false
namespace Go.Proofs.YtjkdahpoalnjjaaDoor.VL
open Go Go.RowKit Go.Lib

def rTkD (kn : Bool) (b : List UInt8) : Rd (List Dg) := if kn = true then (match rCount 8 b with
  | .error e => .error e
  | .ok (c, r) => rMany rDg c.toNat r) else .ok ([], b)
def rTkL (tl : Bool) (b : List UInt8) : Rd (List Dl) := if tl = true then (match rCount 8 b with
  | .error e => .error e
  | .ok (c, r) => rMany rDl c.toNat r) else .ok ([], b)
def rTk (k : Int) (kn tl : Bool) (b : List UInt8) : Rd Tk := match rTkD kn b with
  | .error e => .error e
  | .ok (d, r) => match rTkL tl r with
    | .error e => .error e
    | .ok (l, r) => .ok (⟨k, d, l⟩, r)
/-- What a payload is, as the program says, and what is left of it. -/
def decT (k : Int) (kn tl : Bool) (b : List UInt8) : Tk × Int × List UInt8 := match rTk k kn tl b with
  | .error e => (tkZ, e.1, e.2)
  | .ok (t, r) => if 0 < r.length ∨ tkOk t = false then (tkZ, 3, r) else (t, 0, r)

def dgF (l : List Dg) : List AV := flat (dgG l)
theorem dgF_cons (x : Dg) (l : List Dg) : dgF (x :: l) = dgC x ++ dgF l := by simp [dgF, flat]
theorem dgF_app (l m : List Dg) : dgF (l ++ m) = dgF l ++ dgF m := by simp [dgF, flat]
theorem dgF_snoc (l : List Dg) (x : Dg) : dgF l ++ [vi x.n, vi x.g, vi x.v] = dgF (l ++ [x]) := by rw [dgF_app, dgF_cons]; simp [dgF, flat]
@[go_sem] theorem dgF_length : ∀ l : List Dg, (dgF l).length = l.length * 3
  | [] => rfl
  | x :: l => by rw [dgF_cons, List.length_append, dgF_length l, List.length_cons]; simp; omega
theorem chunk_dgF : ∀ l : List Dg, chunk 3 l.length (dgF l) = dgG l
  | [] => rfl
  | x :: l => by rw [dgF_cons]; simp only [List.length_cons, chunk]; rw [show (dgC x ++ dgF l).take 3 = dgC x from rfl, show (dgC x ++ dgF l).drop 3 = dgF l from rfl, chunk_dgF l]; rfl
def dlF (l : List Dl) : List AV := flat (dlG l)
theorem dlF_cons (x : Dl) (l : List Dl) : dlF (x :: l) = dlC x ++ dlF l := by simp [dlF, flat]
theorem dlF_app (l m : List Dl) : dlF (l ++ m) = dlF l ++ dlF m := by simp [dlF, flat]
theorem dlF_snoc (l : List Dl) (x : Dl) : dlF l ++ [vi x.n, vi x.f, vi x.s.g, vi x.s.b, .lst 3 (enG x.s.a)] = dlF (l ++ [x]) := by rw [dlF_app, dlF_cons]; simp [dlF, flat]
@[go_sem] theorem dlF_length : ∀ l : List Dl, (dlF l).length = l.length * 5
  | [] => rfl
  | x :: l => by rw [dlF_cons, List.length_append, dlF_length l, List.length_cons]; simp; omega
theorem chunk_dlF : ∀ l : List Dl, chunk 5 l.length (dlF l) = dlG l
  | [] => rfl
  | x :: l => by rw [dlF_cons]; simp only [List.length_cons, chunk]; rw [show (dlC x ++ dlF l).take 5 = dlC x from rfl, show (dlC x ++ dlF l).drop 5 = dlF l from rfl, chunk_dlF l]; rfl

theorem rDg_len {b : List UInt8} {p : Dg × List UInt8} (h : rDg b = .ok p) : p.2.length ≤ b.length := by
  unfold rDg at h
  cases e1 : rNum b with
  | error e => rw [e1] at h; cases h
  | ok q =>
    rw [e1] at h
    have l1 := rNum_len e1
    obtain ⟨n, r1⟩ := q
    dsimp only at h l1
    cases e2 : rNum r1 with
    | error e => rw [e2] at h; cases h
    | ok q =>
      rw [e2] at h
      have l2 := rNum_len e2
      obtain ⟨g, r2⟩ := q
      dsimp only at h l2
      cases e3 : rNum r2 with
      | error e => rw [e3] at h; cases h
      | ok q =>
        rw [e3] at h
        have l3 := rNum_len e3
        obtain ⟨v, r3⟩ := q
        dsimp only at h l3
        injection h with h
        subst h
        dsimp only
        omega
theorem rMany_len {α : Type} {f : List UInt8 → Rd α} (hf : ∀ b p, f b = .ok p → p.2.length ≤ b.length) : ∀ (n : Nat) (b : List UInt8) (p : List α × List UInt8), rMany f n b = .ok p → p.2.length ≤ b.length ∧ p.1.length = n
  | 0, b, p, h => by injection h with h; subst h; exact ⟨Nat.le_refl _, rfl⟩
  | n + 1, b, p, h => by
    rw [rMany] at h
    cases e1 : f b with
    | error e => rw [e1] at h; cases h
    | ok q =>
      rw [e1] at h
      have l1 := hf _ _ e1
      obtain ⟨x, r⟩ := q
      dsimp only at h l1
      cases e2 : rMany f n r with
      | error e => rw [e2] at h; cases h
      | ok q =>
        rw [e2] at h
        have l2 := rMany_len hf n r _ e2
        obtain ⟨l, r'⟩ := q
        dsimp only at h l2
        injection h with h
        subst h
        dsimp only
        exact ⟨by omega, by rw [List.length_cons, l2.2]⟩
theorem rEn_len {b : List UInt8} {p : En × List UInt8} (h : rEn b = .ok p) : p.2.length ≤ b.length ∧ p.1.s.length ≤ b.length := by
  unfold rEn at h
  cases e1 : rNum b with
  | error e => rw [e1] at h; cases h
  | ok q =>
    rw [e1] at h
    have l1 := rNum_len e1
    obtain ⟨n, r1⟩ := q
    dsimp only at h l1
    cases e2 : rNum r1 with
    | error e => rw [e2] at h; cases h
    | ok q =>
      rw [e2] at h
      have l2 := rNum_len e2
      obtain ⟨g, r2⟩ := q
      dsimp only at h l2
      cases e3 : rText r2 with
      | error e => rw [e3] at h; cases h
      | ok q =>
        rw [e3] at h
        have l3 := rText_len e3
        have l4 : q.1.length ≤ r2.length := by
          unfold rText at e3
          split at e3
          · injection e3 with e3; subst e3; exact (tt_facts r2 200).2.1
          · cases e3
        obtain ⟨v, r3⟩ := q
        dsimp only at h l3 l4
        injection h with h
        subst h
        dsimp only
        omega
theorem rDl_len {b : List UInt8} {p : Dl × List UInt8} (h : rDl b = .ok p) : p.2.length ≤ b.length ∧ p.1.s.a.length ≤ 12 := by
  unfold rDl at h
  cases e1 : rNum b with
  | error e => rw [e1] at h; cases h
  | ok q =>
    rw [e1] at h
    have l1 := rNum_len e1
    obtain ⟨n, r1⟩ := q
    dsimp only at h l1
    cases e2 : rNum r1 with
    | error e => rw [e2] at h; cases h
    | ok q =>
      rw [e2] at h
      have l2 := rNum_len e2
      obtain ⟨f, r2⟩ := q
      dsimp only at h l2
      cases e3 : rNum r2 with
      | error e => rw [e3] at h; cases h
      | ok q =>
        rw [e3] at h
        have l3 := rNum_len e3
        obtain ⟨g, r3⟩ := q
        dsimp only at h l3
        cases e4 : rNum r3 with
        | error e => rw [e4] at h; cases h
        | ok q =>
          rw [e4] at h
          have l4 := rNum_len e4
          obtain ⟨bt, r4⟩ := q
          dsimp only at h l4
          cases e5 : rCount 12 r4 with
          | error e => rw [e5] at h; cases h
          | ok q =>
            rw [e5] at h
            have l5 := rCount_ok e5
            obtain ⟨c, r5⟩ := q
            dsimp only at h l5
            cases e6 : rMany rEn c.toNat r5 with
            | error e => rw [e6] at h; cases h
            | ok q =>
              rw [e6] at h
              have l6 := rMany_len (fun b p h => (rEn_len h).1) _ _ _ e6
              obtain ⟨a, r6⟩ := q
              dsimp only at h l6
              injection h with h
              subst h
              dsimp only
              omega
end Go.Proofs.YtjkdahpoalnjjaaDoor.VL

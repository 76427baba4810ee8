/- Layer 17: packets of the domain system, as plain values. -/
import Derived.Test.YtkkhbmpcpilmfaaZLabD
import Derived.Test.YtkkhbmpcpilmfaaZCd
set_option linter.unusedVariables false
set_option linter.unusedSimpArgs false
namespace Go.Proofs.Ytkkhbmpcpilmfaa.VL
open Go Go.RowKit Go.Lib

structure Qn where
  n : List UInt8
  t : Int
  c : Int
deriving DecidableEq
structure Rr where
  n : List UInt8
  t : Int
  c : Int
  l : Int
  d : List UInt8
deriving DecidableEq
structure Pk where
  id : Int
  fl : Int
  q : List Qn
  a : List Rr
  u : List Rr
  m : List Rr
deriving DecidableEq
abbrev qnC (q : Qn) : List AV := [vs q.n, vi q.t, vi q.c]
abbrev rrC (r : Rr) : List AV := [vs r.n, vi r.t, vi r.c, vi r.l, vs r.d]
abbrev qnG (l : List Qn) : List (List AV) := l.map qnC
abbrev rrG (l : List Rr) : List (List AV) := l.map rrC
abbrev pkC (p : Pk) : List AV := [vi p.id, vi p.fl, .lst 3 (qnG p.q), .lst 5 (rrG p.a), .lst 5 (rrG p.u), .lst 5 (rrG p.m)]
@[go_sem] theorem qnG_length (l : List Qn) : (qnG l).length = l.length := by simp [qnG]
@[go_sem] theorem qnG_get (l : List Qn) (i : Nat) : (qnG l)[i]? = (l[i]?).map qnC := by simp [qnG]
@[go_sem] theorem rrG_length (l : List Rr) : (rrG l).length = l.length := by simp [rrG]
@[go_sem] theorem rrG_get (l : List Rr) (i : Nat) : (rrG l)[i]? = (l[i]?).map rrC := by simp [rrG]
theorem lt_qn {n : Nat} (l : List Qn) : Lt n (.lst 3 (qnG l)) := .lst _ _ fun i j g c hi hj => by
  simp only [qnG, List.getElem?_map] at hi
  obtain ⟨b, _, rfl⟩ := Option.map_eq_some_iff.1 hi
  rcases j with _ | _ | _ | j <;> simp at hj <;> subst hj <;> exact .v _
theorem lt_rr {n : Nat} (l : List Rr) : Lt n (.lst 5 (rrG l)) := .lst _ _ fun i j g c hi hj => by
  simp only [rrG, List.getElem?_map] at hi
  obtain ⟨b, _, rfl⟩ := Option.map_eq_some_iff.1 hi
  rcases j with _ | _ | _ | _ | _ | j <;> simp at hj <;> subst hj <;> exact .v _

def win (n t : Int) : Bool := decide (0 ≤ n) && decide (n ≤ t)
def qOk (q : Qn) : Bool := (lab q.n).isSome && (win q.t 65535 && win q.c 65535)
def rOk (r : Rr) : Bool := (lab r.n).isSome && (win r.t 65535 && (win r.c 65535 && (win r.l 2147483647 && decide (r.d.length ≤ 1000))))
def qsOk (l : List Qn) : Bool := decide (l.length ≤ 100) && l.all qOk
def rsOk (l : List Rr) : Bool := decide (l.length ≤ 100) && l.all rOk
def pOk (p : Pk) : Bool := win p.id 65535 && (win p.fl 65535 && (qsOk p.q && (rsOk p.a && (rsOk p.u && rsOk p.m))))

/-- The first place where f holds. -/
def fstIx {α : Type} (f : α → Bool) : List α → Nat → Int
  | [], _ => -1
  | x :: l, i => if f x then (i : Int) else fstIx f l (i + 1)
theorem fstIx_any {α : Type} (f : α → Bool) : ∀ (l : List α) (i : Nat), decide (0 ≤ fstIx f l i) = l.any f
  | [], _ => by simp [fstIx]
  | x :: l, i => by
    rw [fstIx, List.any_cons]
    by_cases h : f x = true
    · rw [if_pos h, h]; simp
    · rw [if_neg h, fstIx_any f l (i + 1)]
      simp [h]
theorem fstIx_drop {α : Type} (f : α → Bool) {l : List α} {i : Nat} {x : α} (h : l[i]? = some x) : fstIx f (l.drop i) i = if f x then (i : Int) else fstIx f (l.drop (i + 1)) (i + 1) := by
  have hi := (List.getElem?_eq_some_iff.1 h).1
  rw [List.drop_eq_getElem_cons hi, fstIx, (List.getElem?_eq_some_iff.1 h).2]
theorem fstIx_le {α : Type} (f : α → Bool) : ∀ (l : List α) (i : Nat), fstIx f l i ≤ ((i + l.length : Nat) : Int) ∧ -1 ≤ fstIx f l i
  | [], i => by simp [fstIx]
  | x :: l, i => by
    rw [fstIx]
    have := fstIx_le f l (i + 1)
    split <;> simp only [List.length_cons] <;> omega
theorem any_not {α : Type} (f : α → Bool) (l : List α) : (!l.any fun x => !f x) = l.all f := by
  induction l with
  | nil => rfl
  | cons x l ih => simp only [List.any_cons, List.all_cons, ← ih]; cases f x <;> simp

end Go.Proofs.Ytkkhbmpcpilmfaa.VL

/- Layer 17: what may be of a packet, as the program says. -/
-- STEPWISE
-- WK
set_option linter.unusedVariables false
set_option linter.unusedSimpArgs false
set_option maxRecDepth 10000
namespace Go.Proofs.Ytkkhbmpcpilmfaa.VL
open Go Go.RowKit Go.Lib

theorem within_spec (n t : Int) (H : List Box) : ASpec Try.prog 46 [vi n, vi t] H (Gives (vb (win n t)) H) := by
  unfold win
  by_cases h : 0 ≤ n
  · refine ASpec.enter Try.func46 rfl (fun a w => Try.call46 a w) Try.ntmps46 Try.results46 fun base w β hI => ?_
    refine wk (wA h wT) wT ?_
    refine wkEnd wT ?_
    exact Fin.same ⟨by simp [h], rfl⟩
  · refine ASpec.enter Try.func46 rfl (fun a w => Try.call46 a w) Try.ntmps46 Try.results46 fun base w β hI => ?_
    refine wk (wA h wT) wT ?_
    refine wkEnd wT ?_
    exact Fin.same ⟨by simp [h], rfl⟩

set_option maxHeartbeats 2000000 in
theorem question_spec (q : Qn) (hq : q.n.length ≤ 9223372036854775807) (H : List Box) : ASpec Try.prog 48 [.agg (qnC q)] H (Gives (vb (qOk q)) H) := by
  obtain ⟨n, t, c⟩ := q
  dsimp only at hq
  have hr := fun H => labRight_spec n hq H
  have w1 := fun H => within_spec t 65535 H
  have w2 := fun H => within_spec c 65535 H
  unfold qOk
  dsimp only
  generalize (lab n).isSome = x1 at *
  generalize win t 65535 = x2 at *
  generalize win c 65535 = x3 at *
  cases x1 <;> cases x2 <;> cases x3 <;> (
    refine ASpec.enter Try.func48 rfl (fun a w => Try.call48 a w) Try.ntmps48 Try.results48 fun base w β hI => ?_
    refine wk wT (wA hr (wA w1 (wA w2 wT))) ?_
    refine wkEnd wT ?_
    exact Fin.cut (.v _) ⟨rfl, rfl⟩)

set_option maxHeartbeats 2000000 in
theorem record_spec (r : Rr) (hn : r.n.length ≤ 9223372036854775807) (hd : r.d.length ≤ 9223372036854775807) (H : List Box) : ASpec Try.prog 50 [.agg (rrC r)] H (Gives (vb (rOk r)) H) := by
  obtain ⟨n, t, c, l, d⟩ := r
  dsimp only at hn hd
  have hr := fun H => labRight_spec n hn H
  have w1 := fun H => within_spec t 65535 H
  have w2 := fun H => within_spec c 65535 H
  have w3 := fun H => within_spec l 2147483647 H
  unfold rOk
  dsimp only
  have hdl : decide (d.length ≤ 1000) = decide ((d.length : Int) ≤ 1000) := decide_eq_decide.2 (by omega)
  rw [hdl]
  generalize (lab n).isSome = x1 at *
  generalize win t 65535 = x2 at *
  generalize win c 65535 = x3 at *
  generalize win l 2147483647 = x4 at *
  cases x1
  · refine ASpec.enter Try.func50 rfl (fun a w => Try.call50 a w) Try.ntmps50 Try.results50 fun base w β hI => ?_
    refine wk wT (wA hr (wA w1 (wA w2 (wA w3 wT)))) ?_
    refine wkEnd wT ?_
    exact Fin.cut (.v _) ⟨rfl, rfl⟩
  cases x2
  · refine ASpec.enter Try.func50 rfl (fun a w => Try.call50 a w) Try.ntmps50 Try.results50 fun base w β hI => ?_
    refine wk wT (wA hr (wA w1 (wA w2 (wA w3 wT)))) ?_
    refine wkEnd wT ?_
    exact Fin.cut (.v _) ⟨rfl, rfl⟩
  cases x3
  · refine ASpec.enter Try.func50 rfl (fun a w => Try.call50 a w) Try.ntmps50 Try.results50 fun base w β hI => ?_
    refine wk wT (wA hr (wA w1 (wA w2 (wA w3 wT)))) ?_
    refine wkEnd wT ?_
    exact Fin.cut (.v _) ⟨rfl, rfl⟩
  cases x4
  · refine ASpec.enter Try.func50 rfl (fun a w => Try.call50 a w) Try.ntmps50 Try.results50 fun base w β hI => ?_
    refine wk wT (wA hr (wA w1 (wA w2 (wA w3 wT)))) ?_
    refine wkEnd wT ?_
    exact Fin.cut (.v _) ⟨rfl, rfl⟩
  · refine ASpec.enter Try.func50 rfl (fun a w => Try.call50 a w) Try.ntmps50 Try.results50 fun base w β hI => ?_
    refine wk wT (wA hr (wA w1 (wA w2 (wA w3 wT)))) ?_
    refine wkEnd wT ?_
    exact Fin.cut (.v _) ⟨rfl, rfl⟩

end Go.Proofs.Ytkkhbmpcpilmfaa.VL

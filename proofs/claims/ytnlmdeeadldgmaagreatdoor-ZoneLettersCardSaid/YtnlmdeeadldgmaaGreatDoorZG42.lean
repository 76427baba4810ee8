/- Layer 17: whether a packet may be, and whether it is great, as the reference says. -/
import Derived.Test.YtnlmdeeadldgmaaGreatDoorZVLWalk
import Derived.Test.YtnlmdeeadldgmaaGreatDoorZG41
import Derived.Test.YtnlmdeeadldgmaaGreatDoorZG28
import Derived.Test.YtnlmdeeadldgmaaGreatDoorZG16
import Derived.Test.YtnlmdeeadldgmaaGreatDoorZG34
import Derived.Test.YtnlmdeeadldgmaaGreatDoorZG23
import Derived.Test.YtnlmdeeadldgmaaGreatDoorZG29
import Derived.Test.YtnlmdeeadldgmaaGreatDoorZG30
-- STEPWISE
-- WK
set_option linter.unusedVariables false
set_option linter.unusedSimpArgs false
set_option maxRecDepth 10000
namespace Go.Proofs.YtnlmdeeadldgmaaGreatDoor.VL
open Go Go.RowKit Go.Lib

/-- How much is in records, in questions, in a packet. -/
def szR : List Rr → Nat
  | [] => 0
  | r :: l => (r.n.length + r.d.length) + szR l
def szQ : List Qn → Nat
  | [] => 0
  | q :: l => q.n.length + szQ l
def szP (p : Pk) : Nat := p.q.length + p.a.length + p.u.length + p.m.length + szQ p.q + szR p.a + szR p.u + szR p.m
theorem szR_snoc : ∀ (l : List Rr) (r : Rr), szR (l ++ [r]) = szR l + (r.n.length + r.d.length)
  | [], r => by simp [szR]
  | x :: l, r => by rw [List.cons_append, szR, szR, szR_snoc l r]; omega
theorem szQ_snoc : ∀ (l : List Qn) (r : Qn), szQ (l ++ [r]) = szQ l + r.n.length
  | [], r => by simp [szQ]
  | x :: l, r => by rw [List.cons_append, szQ, szQ, szQ_snoc l r]; omega
theorem szR_mem : ∀ {l : List Rr} {r : Rr}, r ∈ l → r.n.length + r.d.length ≤ szR l
  | x :: l, r, h => by
    rw [szR]
    rcases List.mem_cons.1 h with rfl | h
    · omega
    · have := szR_mem h; omega
theorem szQ_mem : ∀ {l : List Qn} {r : Qn}, r ∈ l → r.n.length ≤ szQ l
  | x :: l, r, h => by
    rw [szQ]
    rcases List.mem_cons.1 h with rfl | h
    · omega
    · have := szQ_mem h; omega
theorem szR_take : ∀ (l : List Rr) (k : Nat), szR (l.take k) ≤ szR l
  | [], k => by simp [szR]
  | r :: l, 0 => by simp [szR]
  | r :: l, k + 1 => by rw [List.take_succ_cons, szR, szR]; have := szR_take l k; omega
theorem szQ_take : ∀ (l : List Qn) (k : Nat), szQ (l.take k) ≤ szQ l
  | [], k => by simp [szQ]
  | r :: l, 0 => by simp [szQ]
  | r :: l, k + 1 => by rw [List.take_succ_cons, szQ, szQ]; have := szQ_take l k; omega

theorem refTwo17_spec (n : Int) (H : List Box) : ASpec Tryz.prog 121 [vi n] H (Gives (vb (win n 65535)) H) := by
  unfold win
  by_cases h : 0 ≤ n
  · refine ASpec.enter Tryz.func121 rfl (fun a w => Tryz.call121 a w) Tryz.ntmps121 Tryz.results121 fun base w β hI => ?_
    refine wk (wA h wT) (wA DrM.mk wT) ?_
    refine wkEnd wT ?_
    exact Fin.same ⟨by simp [h], rfl⟩
  · refine ASpec.enter Tryz.func121 rfl (fun a w => Tryz.call121 a w) Tryz.ntmps121 Tryz.results121 fun base w β hI => ?_
    refine wk (wA h wT) (wA DrM.mk wT) ?_
    refine wkEnd wT ?_
    exact Fin.same ⟨by simp [h], rfl⟩

theorem all_get {α : Type} {f : α → Bool} {l : List α} {i : Nat} {x : α} (h : l.all f = true) (hg : l[i]? = some x) : f x = true := List.all_eq_true.1 h x (List.mem_iff_getElem?.2 ⟨i, hg⟩)
theorem all_snoc {α : Type} {f : α → Bool} {l : List α} {i : Nat} {x : α} (h : (l.take i).all f = true) (hg : l[i]? = some x) (hx : f x = true) : (l.take (i + 1)).all f = true := by
  rw [take_snoc hg, List.all_append, h]; simp [hx]
theorem all_not {α : Type} {f : α → Bool} {l : List α} {i : Nat} {x : α} (hg : l[i]? = some x) (hx : f x = false) : l.all f = false := by
  cases h : l.all f with
  | false => rfl
  | true => rw [all_get h hg] at hx; cases hx

def rOkS (l : List Rr) : Prop := ∀ r ∈ l, r.n.length ≤ 1048576 ∧ r.d.length ≤ 9223372036854775807
set_option maxHeartbeats 4000000 in
theorem records_spec (l : List Rr) (hl : l.length ≤ 9223372036854775807) (hs : rOkS l) (H : List Box) : ASpec Tryz.prog 122 [.lst 5 (rrG l)] H (Gives (vb (rsOk l)) H) := by
  have hrt := fun (s : List UInt8) hs H => refRight16_spec s hs H
  have htw := fun n H => refTwo17_spec n H
  refine ASpec.enter Tryz.func122 rfl (fun a w => Tryz.call122 a w) Tryz.ntmps122 Tryz.results122 fun base w β hI => ?_
  refine wk wT (wA DrM.mk wT) ?_
  refine AWP.loop (ι := {i : Nat // i ≤ l.length ∧ i ≤ 101 ∧ (l.take i).all rOk = true}) (fun p => ⟨[(0, .lst 5 (rrG l)), (3, vi p.1)], H⟩) (fun p => l.length - p.1) ⟨0, Nat.zero_le _, by omega, by simp⟩ ?_ ?_
  · dsimp only
    exact Coe.kp
  · rintro ⟨i, hi, hi2, hall⟩
    dsimp only
    by_cases hc : (i : Int) < (l.length : Int)
    · by_cases hc2 : (i : Int) < 101
      · have hg : l[i]? = some l[i] := List.getElem?_eq_getElem (by omega)
        have hm := hs _ (List.getElem_mem (l := l) (n := i) (by omega))
        generalize l[i] = r at hg hm
        have hrt1 := fun H => hrt r.n (by omega) H
        have htw1 := fun H => htw r.t H
        have htw2 := fun H => htw r.c H
        have hfail : rOk r = false → rsOk l = false := fun h => by unfold rsOk; rw [all_not hg h, Bool.and_false]
        have hrk : rOk r = ((lab r.n).isSome && (win r.t 65535 && (win r.c 65535 && ((decide (0 ≤ r.l) && decide (r.l ≤ 2147483647)) && decide (r.d.length ≤ 1000))))) := rfl
        obtain ⟨n, t, c, tl, d⟩ := r
        dsimp only at hrt1 htw1 htw2 hrk hm
        generalize win t 65535 = w1 at *
        generalize win c 65535 = w2 at *
        cases d1 : (lab n).isSome
        · rw [hfail (by rw [hrk, d1]; rfl)]
          refine wk (wA hc (wA hc2 (wA hg (wA d1 wT)))) (wA hrt1 (wA htw1 (wA htw2 (wA DrM.mk wT)))) ?_
          refine wkEnd wT ?_
          exact Fin.same ⟨rfl, rfl⟩
        cases w1
        · rw [hfail (by rw [hrk]; simp)]
          refine wk (wA hc (wA hc2 (wA hg (wA d1 wT)))) (wA hrt1 (wA htw1 (wA htw2 (wA DrM.mk wT)))) ?_
          refine wkEnd wT ?_
          exact Fin.same ⟨rfl, rfl⟩
        cases w2
        · rw [hfail (by rw [hrk]; simp)]
          refine wk (wA hc (wA hc2 (wA hg (wA d1 wT)))) (wA hrt1 (wA htw1 (wA htw2 (wA DrM.mk wT)))) ?_
          refine wkEnd wT ?_
          exact Fin.same ⟨rfl, rfl⟩
        by_cases d4 : tl < 0
        · rw [hfail (by rw [hrk, show decide (0 ≤ tl) = false from decide_eq_false (by omega)]; simp)]
          refine wk (wA hc (wA hc2 (wA hg (wA d1 (wA d4 wT))))) (wA hrt1 (wA htw1 (wA htw2 (wA DrM.mk wT)))) ?_
          refine wkEnd wT ?_
          exact Fin.same ⟨rfl, rfl⟩
        by_cases d5 : 2147483647 < tl
        · rw [hfail (by rw [hrk, show decide (tl ≤ 2147483647) = false from decide_eq_false (by omega)]; simp)]
          refine wk (wA hc (wA hc2 (wA hg (wA d1 (wA d4 (wA d5 wT)))))) (wA hrt1 (wA htw1 (wA htw2 (wA DrM.mk wT)))) ?_
          refine wkEnd wT ?_
          exact Fin.same ⟨rfl, rfl⟩
        by_cases d6 : (1000 : Int) < (d.length : Int)
        · rw [hfail (by rw [hrk, show decide (d.length ≤ 1000) = false from decide_eq_false (by omega)]; simp)]
          refine wk (wA hc (wA hc2 (wA hg (wA d1 (wA d4 (wA d5 (wA d6 wT))))))) (wA hrt1 (wA htw1 (wA htw2 (wA DrM.mk wT)))) ?_
          refine wkEnd wT ?_
          exact Fin.same ⟨rfl, rfl⟩
        have hok : rOk ⟨n, t, c, tl, d⟩ = true := by rw [hrk, d1]; simp; omega
        refine wk (wA hc (wA hc2 (wA hg (wA d1 (wA d4 (wA d5 (wA d6 wT))))))) (wA hrt1 (wA htw1 (wA htw2 (wA DrM.mk wT)))) ?_
        refine ⟨⟨i + 1, by omega, by omega, all_snoc hall hg hok⟩, ?_, by dsimp only; omega⟩
        dsimp only
        exact Coe.kp
      · have hlong : ¬ (l.length : Int) ≤ 100 := by omega
        have : rsOk l = false := by unfold rsOk; rw [decide_eq_false (by omega), Bool.false_and]
        rw [this]
        refine wk (wA hc (wA hc2 (wA hlong wT))) (wA DrM.mk wT) ?_
        refine wkEnd wT ?_
        exact Fin.same ⟨rfl, rfl⟩
    · have : i = l.length := by omega
      subst this
      rw [List.take_length] at hall
      have : rsOk l = decide ((l.length : Int) ≤ 100) := by
        unfold rsOk; rw [hall, Bool.and_true]
        exact decide_eq_decide.2 (by omega)
      rw [this]
      refine wk (wA hc wT) (wA DrM.mk wT) ?_
      refine wkEnd wT ?_
      exact Fin.same ⟨rfl, rfl⟩

end Go.Proofs.YtnlmdeeadldgmaaGreatDoor.VL

/- Layer 17: whether rows of questions and of records are the same. -/
-- STEPWISE
-- WK
set_option linter.unusedVariables false
set_option linter.unusedSimpArgs false
set_option maxRecDepth 10000
namespace Go.Proofs.YtnlmdeeadldgmaaGreatDoor.VL
open Go Go.RowKit Go.Lib

set_option maxHeartbeats 4000000 in
theorem refSameQ_spec (a b : List Qn) (ha : a.length ≤ 9223372036854775807) (hb : b.length ≤ 9223372036854775807) (H : List Box) : ASpec Tryz.prog 80 [.lst 3 (qnG a), .lst 3 (qnG b)] H (Gives (vb (decide (a = b))) H) := by
  by_cases hl : a.length = b.length
  rotate_left
  · have hn : ¬ a = b := fun e => hl (by rw [e])
    have hl' : ¬ (a.length : Int) = (b.length : Int) := by omega
    rw [decide_eq_false hn]
    refine ASpec.enter Tryz.func80 rfl (fun a w => Tryz.call80 a w) Tryz.ntmps80 Tryz.results80 fun base w β hI => ?_
    refine wk (wA hl' wT) (wA DrM.mk wT) ?_
    refine wkEnd wT ?_
    exact Fin.same ⟨rfl, rfl⟩
  · have hl' : (a.length : Int) = (b.length : Int) := by omega
    have hl2 := eq_true hl'
    refine ASpec.enter Tryz.func80 rfl (fun a w => Tryz.call80 a w) Tryz.ntmps80 Tryz.results80 fun base w β hI => ?_
    refine wk (wA hl2 wT) (wA DrM.mk wT) ?_
    refine AWP.loop (ι := {i : Nat // i ≤ a.length ∧ a.take i = b.take i})
      (fun p => ⟨[(0, .lst 3 (qnG a)), (1, .lst 3 (qnG b)), (5, vi p.1)], H⟩) (fun p => a.length - p.1) ⟨0, Nat.zero_le _, by simp⟩ ?_ ?_
    · dsimp only
      exact Coe.kp
    · rintro ⟨i, hi, he⟩
      dsimp only
      by_cases hc : (i : Int) < (a.length : Int)
      · have hg : a[i]? = some a[i] := List.getElem?_eq_getElem (by omega)
        have hg2 : b[i]? = some b[i] := List.getElem?_eq_getElem (by omega)
        generalize a[i] = x at hg
        generalize b[i] = y at hg2
        have s1 := take_snoc hg
        have s2 := take_snoc hg2
        have hn : x ≠ y → ¬ a = b := fun hx e => hx (by rw [e, hg2] at hg; injection hg with hg; exact hg.symm)
        obtain ⟨xn, xt, xc⟩ := x
        obtain ⟨yn, yt, yc⟩ := y
        by_cases dn : xn = yn
        rotate_left
        · rw [decide_eq_false (hn fun e => dn (by injection e))]
          refine wk (wA hc (wA hg (wA hg2 (wA dn wT)))) (wA DrM.mk wT) ?_
          refine wkEnd wT ?_
          exact Fin.same ⟨rfl, rfl⟩
        subst dn
        by_cases dt : xt = yt
        rotate_left
        · rw [decide_eq_false (hn fun e => dt (by injection e))]
          refine wk (wA hc (wA hg (wA hg2 (wA dt wT)))) (wA DrM.mk wT) ?_
          refine wkEnd wT ?_
          exact Fin.same ⟨rfl, rfl⟩
        subst dt
        by_cases dc : xc = yc
        rotate_left
        · rw [decide_eq_false (hn fun e => dc (by injection e))]
          refine wk (wA hc (wA hg (wA hg2 (wA dc wT)))) (wA DrM.mk wT) ?_
          refine wkEnd wT ?_
          exact Fin.same ⟨rfl, rfl⟩
        subst dc
        refine wk (wA hc (wA hg (wA hg2 wT))) (wA DrM.mk wT) ?_
        refine ⟨⟨i + 1, by omega, by rw [s1, s2, he]⟩, ?_, by dsimp only; omega⟩
        dsimp only
        exact Coe.kp
      · rw [List.take_of_length_le (by omega), List.take_of_length_le (by omega)] at he
        rw [decide_eq_true he]
        refine wk (wA hc wT) (wA DrM.mk wT) ?_
        refine wkEnd wT ?_
        exact Fin.same ⟨rfl, rfl⟩

set_option maxHeartbeats 4000000 in
theorem refSameR_spec (a b : List Rr) (ha : a.length ≤ 9223372036854775807) (hb : b.length ≤ 9223372036854775807) (H : List Box) : ASpec Tryz.prog 25 [.lst 5 (rrG a), .lst 5 (rrG b)] H (Gives (vb (decide (a = b))) H) := by
  by_cases hl : a.length = b.length
  rotate_left
  · have hn : ¬ a = b := fun e => hl (by rw [e])
    have hl' : ¬ (a.length : Int) = (b.length : Int) := by omega
    rw [decide_eq_false hn]
    refine ASpec.enter Tryz.func25 rfl (fun a w => Tryz.call25 a w) Tryz.ntmps25 Tryz.results25 fun base w β hI => ?_
    refine wk (wA hl' wT) (wA DrM.mk wT) ?_
    refine wkEnd wT ?_
    exact Fin.same ⟨rfl, rfl⟩
  · have hl' : (a.length : Int) = (b.length : Int) := by omega
    have hl2 := eq_true hl'
    refine ASpec.enter Tryz.func25 rfl (fun a w => Tryz.call25 a w) Tryz.ntmps25 Tryz.results25 fun base w β hI => ?_
    refine wk (wA hl2 wT) (wA DrM.mk wT) ?_
    refine AWP.loop (ι := {i : Nat // i ≤ a.length ∧ a.take i = b.take i})
      (fun p => ⟨[(0, .lst 5 (rrG a)), (1, .lst 5 (rrG b)), (5, vi p.1)], H⟩) (fun p => a.length - p.1) ⟨0, Nat.zero_le _, by simp⟩ ?_ ?_
    · dsimp only
      exact Coe.kp
    · rintro ⟨i, hi, he⟩
      dsimp only
      by_cases hc : (i : Int) < (a.length : Int)
      · have hg : a[i]? = some a[i] := List.getElem?_eq_getElem (by omega)
        have hg2 : b[i]? = some b[i] := List.getElem?_eq_getElem (by omega)
        generalize a[i] = x at hg
        generalize b[i] = y at hg2
        have s1 := take_snoc hg
        have s2 := take_snoc hg2
        have hn : x ≠ y → ¬ a = b := fun hx e => hx (by rw [e, hg2] at hg; injection hg with hg; exact hg.symm)
        obtain ⟨xn, xt, xc, xl, xd⟩ := x
        obtain ⟨yn, yt, yc, yl, yd⟩ := y
        by_cases dn : xn = yn
        rotate_left
        · rw [decide_eq_false (hn fun e => dn (by injection e))]
          refine wk (wA hc (wA hg (wA hg2 (wA dn wT)))) (wA DrM.mk wT) ?_
          refine wkEnd wT ?_
          exact Fin.same ⟨rfl, rfl⟩
        subst dn
        by_cases dt : xt = yt
        rotate_left
        · rw [decide_eq_false (hn fun e => dt (by injection e))]
          refine wk (wA hc (wA hg (wA hg2 (wA dt wT)))) (wA DrM.mk wT) ?_
          refine wkEnd wT ?_
          exact Fin.same ⟨rfl, rfl⟩
        subst dt
        by_cases dc : xc = yc
        rotate_left
        · rw [decide_eq_false (hn fun e => dc (by injection e))]
          refine wk (wA hc (wA hg (wA hg2 (wA dc wT)))) (wA DrM.mk wT) ?_
          refine wkEnd wT ?_
          exact Fin.same ⟨rfl, rfl⟩
        subst dc
        by_cases dl : xl = yl
        rotate_left
        · rw [decide_eq_false (hn fun e => dl (by injection e))]
          refine wk (wA hc (wA hg (wA hg2 (wA dl wT)))) (wA DrM.mk wT) ?_
          refine wkEnd wT ?_
          exact Fin.same ⟨rfl, rfl⟩
        subst dl
        by_cases dd : xd = yd
        rotate_left
        · rw [decide_eq_false (hn fun e => dd (by injection e))]
          refine wk (wA hc (wA hg (wA hg2 (wA dd wT)))) (wA DrM.mk wT) ?_
          refine wkEnd wT ?_
          exact Fin.same ⟨rfl, rfl⟩
        subst dd
        refine wk (wA hc (wA hg (wA hg2 wT))) (wA DrM.mk wT) ?_
        refine ⟨⟨i + 1, by omega, by rw [s1, s2, he]⟩, ?_, by dsimp only; omega⟩
        dsimp only
        exact Coe.kp
      · rw [List.take_of_length_le (by omega), List.take_of_length_le (by omega)] at he
        rw [decide_eq_true he]
        refine wk (wA hc wT) (wA DrM.mk wT) ?_
        refine wkEnd wT ?_
        exact Fin.same ⟨rfl, rfl⟩

end Go.Proofs.YtnlmdeeadldgmaaGreatDoor.VL

/- Layer 8: whether deltas may be, as the reference looks at them: the loop. -/
-- STEPWISE
-- WK
set_option linter.unusedVariables false
set_option linter.unusedSimpArgs false
set_option maxRecDepth 10000
namespace Go.Proofs.YtnlmdeeadldgmaaGreatDoor.VL
open Go Go.RowKit Go.Lib

end Go.Proofs.YtnlmdeeadldgmaaGreatDoor.VL

/- Layer 20: whether a talk may be. -/
-- STEPWISE
-- WK
set_option linter.unusedVariables false
set_option linter.unusedSimpArgs false
set_option maxRecDepth 10000
namespace Go.Proofs.YtnlmdeeadldgmaaGreatDoor.VL
open Go Go.RowKit Go.Lib

theorem kOk_and (k : Int) : kOk k = (decide (1 ≤ k) && decide (k < 8)) := by
  unfold kOk
  by_cases h : 1 ≤ k
  · by_cases h2 : k < 8 <;> simp [h, h2]
  · simp [h]
theorem isE {α : Type} (l : List α) : l.isEmpty = decide ((l.length : Int) = 0) := by
  cases l with
  | nil => rfl
  | cons a l => exact (decide_eq_false (by simp only [List.length_cons]; omega)).symm
theorem tkOk_eq (t : Tk) : tkOk t = (kOk t.k && ((knows t.k || decide ((t.d.length : Int) = 0)) && ((tells t.k || decide ((t.l.length : Int) = 0)) && (dgOk t.d && dlOk t.l)))) := by
  unfold tkOk
  rw [kOk_and, isE, isE, Bool.and_assoc]


theorem tkOk_ref (k rd rl kn te : Bool) (a b : Bool) : (k && ((kn || a) && ((te || b) && (rd && rl)))) = (k && (rd && (rl && ((kn || a) && (te || b))))) := by
  cases k <;> cases rd <;> cases rl <;> cases kn <;> cases te <;> cases a <;> cases b <;> rfl
end Go.Proofs.YtnlmdeeadldgmaaGreatDoor.VL

/- Layer 20: a talk's bytes, and how many they are. -/
set_option linter.unusedVariables false
set_option linter.unusedSimpArgs false
namespace Go.Proofs.YtnlmdeeadldgmaaGreatDoor.VL
open Go Go.RowKit Go.Lib

def dgB (x : Dg) : List UInt8 := numsB [x.n, x.g, x.v]
def enB (x : En) : List UInt8 := numsB [x.k, x.v] ++ (numB x.s.length ++ x.s)
def dlB (d : Dl) : List UInt8 := numsB [d.n, d.f, d.s.g, d.s.b, d.s.a.length] ++ d.s.a.flatMap enB
def tB (t : Tk) : List UInt8 := (if knows t.k then numB t.d.length ++ t.d.flatMap dgB else []) ++ (if tells t.k then numB t.l.length ++ t.l.flatMap dlB else [])
/-- What Encode answers. -/
def encT (t : Tk) : List UInt8 × Int := if tkOk t then (tB t, 0) else ([], 1)

theorem fm_le {α : Type} (f : α → List UInt8) (c : Nat) : ∀ (l : List α), (∀ x ∈ l, (f x).length ≤ c) → (l.flatMap f).length ≤ l.length * c
  | [], _ => by simp
  | x :: l, h => by
    have h1 := h x (by simp)
    have h2 := fm_le f c l fun y hy => h y (by simp [hy])
    rw [List.flatMap_cons, List.length_append, List.length_cons, Nat.succ_mul]
    omega
theorem fm_take {α : Type} (f : α → List UInt8) {l : List α} {i : Nat} {x : α} (h : l[i]? = some x) : (l.take (i + 1)).flatMap f = (l.take i).flatMap f ++ f x := by
  rw [take_snoc h, List.flatMap_append, List.flatMap_cons, List.flatMap_nil, List.append_nil]
theorem fm_pre {α : Type} (f : α → List UInt8) (l : List α) (i : Nat) : ((l.take i).flatMap f).length ≤ (l.flatMap f).length := by
  have := congrArg List.length (show (l.take i).flatMap f ++ (l.drop i).flatMap f = l.flatMap f by rw [← List.flatMap_append, List.take_append_drop])
  rw [List.length_append] at this
  omega
theorem dgB_le (x : Dg) : (dgB x).length ≤ 27 := by
  have a1 := numB_length_le x.n
  have a2 := numB_length_le x.g
  have a3 := numB_length_le x.v
  simp only [dgB, numsB, List.flatMap_cons, List.flatMap_nil, List.length_append, List.length_nil]
  omega
theorem enB_le {x : En} (h : mayE x = true) : (enB x).length ≤ 227 := by
  have a1 := numB_length_le x.k
  have a2 := numB_length_le x.v
  have a3 := numB_length_le x.s.length
  have a4 := (mayE_iff.1 h).2.2.2.2
  simp only [enB, numsB, List.flatMap_cons, List.flatMap_nil, List.length_append, List.length_nil]
  omega
theorem mayD_iff {d : Dl} : mayD d = true ↔ 0 ≤ d.n ∧ d.n < 8 ∧ 0 ≤ d.f ∧ d.f ≤ 1099511627776 ∧ stOk d.s = true ∧ aboveAll d.f d.s.a = true := by simp [mayD]
theorem stOk_iff {s : St} : stOk s = true ↔ 1 ≤ s.g ∧ s.g ≤ 1099511627776 ∧ 0 ≤ s.b ∧ s.b ≤ 1099511627776 ∧ tabOk s.a = true := by simp [stOk]
theorem mayD_tab {d : Dl} (h : mayD d = true) : tabOk d.s.a = true := (stOk_iff.1 (mayD_iff.1 h).2.2.2.2.1).2.2.2.2
theorem num5_le (a b c d e : Int) : (numsB [a, b, c, d, e]).length ≤ 45 := numsB_length [a, b, c, d, e]
theorem dlA_le {d : Dl} (h : mayD d = true) : (d.s.a.flatMap enB).length ≤ 2724 := by
  have h1 := fm_le enB 227 d.s.a fun x hx => enB_le (tabOk_may (mayD_tab h) x hx)
  have h2 := tabOk_len (mayD_tab h)
  have h3 := Nat.mul_le_mul_right 227 h2
  omega
theorem dlB_le {d : Dl} (h : mayD d = true) : (dlB d).length ≤ 2769 := by
  have h1 := dlA_le h
  have h2 := num5_le d.n d.f d.s.g d.s.b d.s.a.length
  rw [dlB, List.length_append]
  omega
theorem dgGo_len {last : Int} : ∀ {l : List Dg}, dgGo last l = true → -1 ≤ last → (l = [] ∨ (l.length : Int) + last ≤ 7)
  | [], _, _ => .inl rfl
  | y :: l, h, h0 => by
    simp only [dgGo, Bool.and_eq_true, decide_eq_true_eq] at h
    right
    rw [List.length_cons]
    rcases dgGo_len h.2.2.2.2.2.2 (by omega) with rfl | h3
    · simp; omega
    · omega
theorem dgOk_len {l : List Dg} (h : dgOk l = true) : l.length ≤ 8 := by
  rcases dgGo_len h (by omega) with rfl | h
  · simp
  · omega
theorem dlGo_len {last : Int} : ∀ {l : List Dl}, dlGo last l = true → -1 ≤ last → (l = [] ∨ (l.length : Int) + last ≤ 7)
  | [], _, _ => .inl rfl
  | y :: l, h, h0 => by
    simp only [dlGo, Bool.and_eq_true, decide_eq_true_eq] at h
    have hm := mayD_iff.1 h.1
    right
    rw [List.length_cons]
    rcases dlGo_len h.2.2 (by omega) with rfl | h3
    · simp; omega
    · omega
theorem dlOk_len {l : List Dl} (h : dlOk l = true) : l.length ≤ 8 := by
  rcases dlGo_len h (by omega) with rfl | h
  · simp
  · omega
theorem dlGo_may {last : Int} : ∀ {l : List Dl}, dlGo last l = true → ∀ x ∈ l, mayD x = true
  | y :: l, h, x, hx => by
    simp only [dlGo, Bool.and_eq_true, decide_eq_true_eq] at h
    rcases List.mem_cons.1 hx with rfl | hx
    · exact h.1
    · exact dlGo_may h.2.2 x hx
theorem dgs_le {l : List Dg} (h : dgOk l = true) : (l.flatMap dgB).length ≤ 216 := by
  have h1 := fm_le dgB 27 l fun x hx => dgB_le x
  have h3 := Nat.mul_le_mul_right 27 (dgOk_len h)
  omega
theorem dls_le {l : List Dl} (h : dlOk l = true) : (l.flatMap dlB).length ≤ 22152 := by
  have h1 := fm_le dlB 2769 l fun x hx => dlB_le (dlGo_may h x hx)
  have h3 := Nat.mul_le_mul_right 2769 (dlOk_len h)
  omega
theorem tkOk_parts {t : Tk} (h : tkOk t = true) : (1 ≤ t.k ∧ t.k < 8) ∧ (knows t.k = false → t.d = []) ∧ (tells t.k = false → t.l = []) ∧ dgOk t.d = true ∧ dlOk t.l = true := by
  simp only [tkOk, Bool.and_eq_true, Bool.or_eq_true, decide_eq_true_eq, List.isEmpty_iff] at h
  refine ⟨⟨h.1, h.2.1⟩, fun hk => ?_, fun hk => ?_, h.2.2.2.2.1, h.2.2.2.2.2⟩
  · rcases h.2.2.1 with h1 | h1
    · rw [h1] at hk; cases hk
    · exact h1
  · rcases h.2.2.2.1 with h1 | h1
    · rw [h1] at hk; cases hk
    · exact h1
theorem tB_le {t : Tk} (h : tkOk t = true) : (tB t).length ≤ 22386 := by
  obtain ⟨_, _, _, h1, h2⟩ := tkOk_parts h
  have a1 := dgs_le h1
  have a2 := dls_le h2
  have a3 := numB_length_le t.d.length
  have a4 := numB_length_le t.l.length
  unfold tB
  cases knows t.k <;> cases tells t.k <;> simp only [Bool.false_eq_true, if_true, if_false, List.length_append, List.length_nil] <;> omega
theorem tkOk_in {t : Tk} (h : tkOk t = true) : TkIn t := by
  obtain ⟨_, _, _, h1, h2⟩ := tkOk_parts h
  refine ⟨Nat.le_trans (dgOk_len h1) (by omega), Nat.le_trans (dlOk_len h2) (by omega), fun d hd => ⟨?_, fun y hy => ?_⟩⟩
  · exact Nat.le_trans (tabOk_len (mayD_tab (dlGo_may h2 d hd))) (by omega)
  · exact Nat.le_trans (mayE_iff.1 (tabOk_may (mayD_tab (dlGo_may h2 d hd)) y hy)).2.2.2.2 (by omega)

end Go.Proofs.YtnlmdeeadldgmaaGreatDoor.VL

/- Layer 18: the laws of what is told, in plain values. -/
set_option linter.unusedVariables false
set_option linter.unusedSimpArgs false
namespace Go.Proofs.YtnlmdeeadldgmaaGreatDoor.VL
open Go Go.RowKit Go.Lib

theorem sameN_none_l {a b : List UInt8} (h : lab a = none) : sameN a b = false := by rw [sameN, h]; rfl
theorem sameN_none_r {a b : List UInt8} (h : lab b = none) : sameN a b = false := by
  rw [sameN, h]
  cases (lab a).isSome <;> rfl
theorem sameN_refl {a : List UInt8} {l : List (List UInt8)} (h : lab a = some l) : sameN a a = true := by rw [sameN_iff h h]; simp
theorem sameN_lowR (a b : List UInt8) : sameN a (lowB b) = sameN a b := by
  cases hb : lab b with
  | none => rw [lab_low_none hb]
  | some m =>
    cases ha : lab a with
    | none => rw [sameN_none_l ha, sameN_none_l ha]
    | some l => rw [sameN_iff ha (lab_low hb).2, sameN_iff ha hb, lowL_idem]
theorem sameN_com (a b : List UInt8) : sameN a b = sameN b a := by
  unfold sameN
  have h : decide (lowB a = lowB b) = decide (lowB b = lowB a) := by
    by_cases h : lowB a = lowB b
    · rw [decide_eq_true h, decide_eq_true h.symm]
    · rw [decide_eq_false h, decide_eq_false fun e => h e.symm]
  rw [h]
  cases (lab a).isSome <;> cases (lab b).isSome <;> rfl
theorem sameN_low_l (a b : List UInt8) : sameN (lowB a) b = sameN a b := by rw [sameN_com, sameN_lowR, sameN_com]

/-- Small letters are asked the same. -/
theorem hosts_low (d : List UInt8) (x : Nd) (name : List UInt8) : hosts d x (lowB name) = hosts d x name := by unfold hosts; rw [sameN_lowR]
theorem offF_low (d name : List UInt8) (v : Sv) : offF d (lowB name) v = offF d name v := by unfold offF; rw [sameN_lowR]
theorem offL_low (d : List UInt8) (x : Nd) (name : List UInt8) : offL d x (lowB name) = offL d x name := by
  unfold offL
  congr 1
  funext v
  exact offF_low d name v
theorem existsN_low (s : Sc) (name : List UInt8) : existsN s (lowB name) = existsN s name := by
  unfold existsN
  rw [sameN_low_l]
  congr 1
  exact any_congr fun x _ => by rw [hosts_low, offL_low]
theorem tellD_low (s : Sc) (name : List UInt8) (t : Int) : tellD s (lowB name) t = tellD s name t := by
  unfold tellD
  rw [sameN_low_l]
  congr 1
  exact flatMap_congr' fun x _ => by unfold tellX; rw [hosts_low, offL_low]

/-- What is told of is there. -/
theorem tell_exists {s : Sc} {name : List UInt8} {t : Int} (h : tellD s name t ≠ []) : existsN s name = true := by
  unfold existsN
  by_cases hs : sameN name s.d = true
  · rw [hs]; rfl
  · rw [Bool.not_eq_true] at hs
    rw [hs, Bool.false_or]
    have h1 : (cntL s).flatMap (tellX s.d name t) ≠ [] := by
      intro h0
      apply h
      rw [tellD, h0, hs]
      simp
    have h2 : ∃ x ∈ cntL s, tellX s.d name t x ≠ [] := by
      apply Classical.byContradiction
      intro hn
      exact h1 (List.flatMap_eq_nil_iff.2 fun x hx => Classical.byContradiction fun hh => hn ⟨x, hx, hh⟩)
    obtain ⟨x, hx, hne⟩ := h2
    rw [List.any_eq_true]
    refine ⟨x, hx, ?_⟩
    unfold tellX at hne
    split at hne
    · rename_i hc
      rw [hc.2]; rfl
    · split at hne
      · split at hne
        · cases ho : offL s.d x name with
          | nil => rw [ho] at hne; exact absurd rfl hne
          | cons _ _ => simp
        · exact absurd rfl hne
      · exact absurd rfl hne

/-- What does not count changes nothing. -/
def lessN (s : Sc) : Sc := ⟨cntL s, s.a, s.d⟩
theorem cntL_less (s : Sc) : cntL (lessN s) = cntL s := by
  rw [show cntL (lessN s) = (cntL s).filter (fun x => s.a.contains x.n && upE x.s.a) from rfl, cntL, List.filter_filter]
  simp
theorem tellD_less (s : Sc) (name : List UInt8) (t : Int) : tellD (lessN s) name t = tellD s name t := by
  unfold tellD
  rw [cntL_less]
  rfl
theorem existsN_less (s : Sc) (name : List UInt8) : existsN (lessN s) name = existsN s name := by
  unfold existsN
  rw [cntL_less]
  rfl
def deadN (s : Sc) : Sc := ⟨s.v, [], s.d⟩
theorem cntL_dead (s : Sc) : cntL (deadN s) = [] := by
  unfold cntL deadN
  simp
theorem tellD_dead (s : Sc) (name : List UInt8) (t : Int) (h2 : t ≠ 2) (h6 : t ≠ 6) : tellD (deadN s) name t = [] := by
  unfold tellD
  rw [cntL_dead]
  simp [h2, h6]

/-- An endpoint that counts has a host. -/
theorem host_some {d : List UInt8} {n : Int} (h : (hostN d n).2 = true) : (0 ≤ n ∧ n < 8) ∧ hostN d n = winN d [digN n] := by
  unfold hostN at h ⊢
  split at h
  · rename_i hc; exact ⟨hc, if_pos hc⟩
  · cases h
theorem host_lab {d : List UInt8} {n : Int} (h : (hostN d n).2 = true) : lab (hostN d n).1 = some (digN n :: labelsN d) ∧ ∃ l, lab d = some l := by
  obtain ⟨_, e⟩ := host_some h
  rw [e] at h ⊢
  obtain ⟨h1, h2, _⟩ := winN_some h
  exact ⟨h2, Option.isSome_iff_exists.1 h1⟩
theorem host_hosts {d : List UInt8} {x : Nd} (h : (hostN d x.n).2 = true) : hosts d x (hostN d x.n).1 = true := by
  unfold hosts
  rw [h, sameN_refl (host_lab h).1]
  rfl
theorem host_exists {s : Sc} {x : Nd} (hx : x ∈ cntL s) (h : (hostN s.d x.n).2 = true) : existsN s (hostN s.d x.n).1 = true := by
  unfold existsN
  rw [Bool.or_eq_true, List.any_eq_true]
  exact .inr ⟨x, hx, by rw [host_hosts h]; rfl⟩
theorem host_under {d : List UInt8} {n : Int} (h : (hostN d n).2 = true) : underN (hostN d n).1 d = true := by
  obtain ⟨h1, l, h2⟩ := host_lab h
  unfold underN
  rw [(lab_low h1).2, (lab_low h2).2]
  unfold labelsN
  rw [h2]
  simp [lowL]
theorem host_tells {s : Sc} (hv : ndOk s.v = true) {x : Nd} (hx : x ∈ cntL s) (h : (hostN s.d x.n).2 = true) (key t : Int) (hk : (key = 1 ∧ t = 1) ∨ (key = 2 ∧ t = 28)) :
    tellD s (hostN s.d x.n).1 t = if (addrE x.s.a key).2 = true then [(addrE x.s.a key).1] else [] := by
  have hr : refHost s (hostN s.d x.n).1 = x.n := by
    unfold refHost
    cases hf : (cntL s).find? (fun y => hosts s.d y (hostN s.d x.n).1) with
    | none =>
      rw [List.find?_eq_none] at hf
      exact absurd (host_hosts h) (hf x hx)
    | some y => exact hosts_inj (List.find?_some (p := fun y => hosts s.d y (hostN s.d x.n).1) hf) (host_hosts h)
  have h0 := (ndOk_mem hv (cntL_mem hx).1).1
  rw [← refTellD_eq hv]
  unfold refTellD
  rcases hk with ⟨rfl, rfl⟩ | ⟨rfl, rfl⟩
  · rw [if_pos (.inl rfl), hr, appsN_mem hv hx]
    simp [h0]
  · rw [if_pos (.inr rfl), hr, appsN_mem hv hx]
    simp [h0]

/-- The domain itself. -/
theorem winN_neq {d : List UInt8} {l : List (List UInt8)} (hl : l ≠ []) : ((winN d l).2 && sameN (winN d l).1 d) = false := by
  cases h : (winN d l).2 with
  | false => rfl
  | true =>
    obtain ⟨h1, h2, _⟩ := winN_some h
    obtain ⟨m, hm⟩ := Option.isSome_iff_exists.1 h1
    rw [sameN_iff h2 hm, Bool.true_and, decide_eq_false_iff_not]
    intro he
    have := congrArg List.length he
    unfold labelsN at this
    rw [hm] at this
    simp only [lowL, List.length_map, List.length_append] at this
    have : l.length = 0 := by omega
    exact hl (List.length_eq_zero_iff.1 this)
theorem hosts_apex (d : List UInt8) (x : Nd) : hosts d x d = false := by
  unfold hosts hostN
  split
  · exact winN_neq (by simp)
  · rfl
theorem offL_apex (d : List UInt8) (x : Nd) : offL d x d = [] := by
  unfold offL
  rw [List.filter_eq_nil_iff]
  intro v _
  unfold offF
  have := winN_neq (d := d) (l := [95 :: v.n, 95 :: v.p]) (by simp)
  generalize (winN d [95 :: v.n, 95 :: v.p]) = w at *
  cases hw : w.2 <;> rw [hw] at this <;> simp_all
theorem tellX_apex (d : List UInt8) (t : Int) (x : Nd) : tellX d d t x = [] := by
  unfold tellX
  rw [hosts_apex, offL_apex]
  simp
theorem tellD_apex (s : Sc) (t : Int) : tellD s s.d t = if (t = 2 ∨ t = 6) ∧ sameN s.d s.d = true then (if (apexN s.d t).2 then [(apexN s.d t).1] else []) else [] := by
  unfold tellD
  rw [flatMap_nil' (fun x _ => tellX_apex s.d t x), List.nil_append]
theorem apex_none {s : Sc} (h : lab s.d = none) (t : Int) : (startN s.d).2 = false ∧ tellD s s.d t = [] ∧ existsN s s.d = false := by
  have hw : ∀ l, winN s.d l = ([], false) := fun l => by
    unfold winN
    rw [h, if_neg (by simp)]
  refine ⟨?_, ?_, ?_⟩
  · unfold startN startOk
    rw [hw, hw]
    rfl
  · rw [tellD_apex, sameN_none_l h]
    simp
  · unfold existsN
    rw [sameN_none_l h, Bool.false_or, List.any_eq_false]
    intro x _
    rw [hosts_apex, offL_apex]
    simp
theorem apex_some {s : Sc} {l : List (List UInt8)} (h : lab s.d = some l) (t : Int) : existsN s s.d = true ∧ (tellD s s.d t).length ≤ 1 ∧ ((tellD s s.d t).length = 1 → t = 2 ∨ t = 6) ∧
    (t = 6 → tellD s s.d t = if (startN s.d).2 = true then [(startN s.d).1.d] else []) := by
  refine ⟨?_, ?_, ?_, ?_⟩
  · unfold existsN
    rw [sameN_refl h]
    rfl
  · rw [tellD_apex]
    split
    · split <;> simp
    · simp
  · rw [tellD_apex]
    split
    · rename_i hc; exact fun _ => hc.1
    · simp
  · rintro rfl
    rw [tellD_apex, if_pos ⟨.inr rfl, sameN_refl h⟩, show apexN s.d 6 = ((startN s.d).1.d, (startN s.d).2) by unfold apexN; rw [if_neg (show ¬ (6 : Int) = 2 by omega)]]

end Go.Proofs.YtnlmdeeadldgmaaGreatDoor.VL

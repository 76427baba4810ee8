/- Layers 5, 6, 14, 15: what the reference looks at of views. -/
import Derived.Test.YtnlmdeeadldgmaaGreatDoorZG34
import Derived.Test.YtnlmdeeadldgmaaGreatDoorZG14
import Derived.ProofKit
import Derived.Handed
import Derived.Carry
import Derived.JoinedOf
-- STEPWISE
-- WK
set_option linter.unusedVariables false
set_option linter.unusedSimpArgs false
set_option maxRecDepth 10000
namespace Go.Proofs.YtnlmdeeadldgmaaGreatDoor.VL
open Go Go.RowKit Go.Lib

set_option maxHeartbeats 1000000 in
theorem has14_spec (l : List Int) (s : Int) (hl : l.length ≤ 9223372036854775807) (H : List Box) : ASpec Tryz.prog 29 [.lst 1 (inG l), vi s] H (Gives (vb (l.contains s)) H) := by
  rw [contains_any]
  refine ASpec.enter Tryz.func29 rfl (fun a w => Tryz.call29 a w) Tryz.ntmps29 Tryz.results29 fun base w β hI => ?_
  refine wk wT (wA DrM.mk wT) ?_
  refine AWP.loop (ι := {i : Nat // i ≤ l.length ∧ l.any (fun x => decide (s = x)) = (l.drop i).any (fun x => decide (s = x))})
    (fun p => ⟨[(0, .lst 1 (inG l)), (1, vi s), (5, vi p.1)], H⟩) (fun p => l.length - p.1) ⟨0, Nat.zero_le _, by rw [List.drop_zero]⟩ ?_ ?_
  · dsimp only
    exact Coe.kp
  · rintro ⟨i, hi, he⟩
    dsimp only
    by_cases hc : (i : Int) < (l.length : Int)
    · have hg : l[i]? = some l[i] := List.getElem?_eq_getElem (by omega)
      rw [List.drop_eq_getElem_cons (show i < l.length by omega), List.any_cons] at he
      generalize l[i] = x at hg he
      by_cases hx : x = s
      · rw [he, decide_eq_true hx.symm, Bool.true_or]
        refine wk (wA hc (wA hg (wA hx wT))) (wA DrM.mk wT) ?_
        refine wkEnd wT ?_
        exact Fin.same ⟨rfl, rfl⟩
      · rw [decide_eq_false (fun e => hx e.symm), Bool.false_or] at he
        refine wk (wA hc (wA hg (wA hx wT))) (wA DrM.mk wT) ?_
        refine ⟨⟨i + 1, by omega, he⟩, ?_, by dsimp only; omega⟩
        dsimp only
        exact Coe.kp
    · rw [List.drop_of_length_le (by omega), List.any_nil] at he
      rw [he]
      refine wk (wA hc wT) (wA DrM.mk wT) ?_
      refine wkEnd wT ?_
      exact Fin.same ⟨rfl, rfl⟩

set_option maxHeartbeats 1000000 in
theorem ints6_spec (a b : List Int) (ha : a.length ≤ 9223372036854775807) (hb : b.length ≤ 9223372036854775807) (H : List Box) : ASpec Tryz.prog 20 [.lst 1 (inG a), .lst 1 (inG b)] H (Gives (vb (decide (a = b))) H) := by
  by_cases hl : a.length = b.length
  rotate_left
  · have hn : ¬ a = b := fun e => hl (by rw [e])
    have hl' : ¬ (a.length : Int) = (b.length : Int) := by omega
    rw [decide_eq_false hn]
    refine ASpec.enter Tryz.func20 rfl (fun a w => Tryz.call20 a w) Tryz.ntmps20 Tryz.results20 fun base w β hI => ?_
    refine wk (wA hl' wT) (wA DrM.mk wT) ?_
    refine wkEnd wT ?_
    exact Fin.same ⟨rfl, rfl⟩
  · have hl' : (a.length : Int) = (b.length : Int) := by omega
    have hl2 := eq_true hl'
    refine ASpec.enter Tryz.func20 rfl (fun a w => Tryz.call20 a w) Tryz.ntmps20 Tryz.results20 fun base w β hI => ?_
    refine wk (wA hl2 wT) (wA DrM.mk wT) ?_
    refine AWP.loop (ι := {i : Nat // i ≤ a.length ∧ a.take i = b.take i})
      (fun p => ⟨[(0, .lst 1 (inG a)), (1, .lst 1 (inG b)), (5, vi p.1)], H⟩) (fun p => a.length - p.1) ⟨0, Nat.zero_le _, by simp⟩ ?_ ?_
    · dsimp only
      exact Coe.kp
    · rintro ⟨i, hi, he⟩
      dsimp only
      by_cases hc : (i : Int) < (a.length : Int)
      · have hg : a[i]? = some a[i] := List.getElem?_eq_getElem (by omega)
        have hg2 : b[i]? = some b[i] := List.getElem?_eq_getElem (by omega)
        generalize a[i] = x at hg
        generalize b[i] = y at hg2
        have s1 := take_snoc hg
        have s2 := take_snoc hg2
        have hn : x ≠ y → ¬ a = b := fun hx e => hx (by rw [e, hg2] at hg; injection hg with hg; exact hg.symm)
        by_cases dn : x = y
        rotate_left
        · rw [decide_eq_false (hn dn)]
          refine wk (wA hc (wA hg (wA hg2 (wA dn wT)))) (wA DrM.mk wT) ?_
          refine wkEnd wT ?_
          exact Fin.same ⟨rfl, rfl⟩
        subst dn
        refine wk (wA hc (wA hg (wA hg2 wT))) (wA DrM.mk wT) ?_
        refine ⟨⟨i + 1, by omega, by rw [s1, s2, he]⟩, ?_, by dsimp only; omega⟩
        dsimp only
        exact Coe.kp
      · have hil : i = a.length := by omega
        have hab : a = b := by
          rw [hil, List.take_length, List.take_of_length_le (by omega)] at he
          exact he
        rw [decide_eq_true hab]
        refine wk (wA hc wT) (wA DrM.mk wT) ?_
        refine wkEnd wT ?_
        exact Fin.same ⟨rfl, rfl⟩

theorem rep_st {w : World} {H : List Box} {β : Pl} {v : Value} {a b c c' : AV} (hc : ∀ x, Rep w H β c x → Rep w H β c' x) (h : Rep w H β (.agg [a, b, c]) v) : Rep w H β (.agg [a, b, c']) v := by
  cases h with
  | agg _ vs' hl' h' =>
    refine .agg _ _ (by simpa using hl') fun i d x hd hx => ?_
    rcases i with _ | _ | _ | i
    · exact h' 0 d x (by simpa using hd) hx
    · exact h' 1 d x (by simpa using hd) hx
    · simp at hd; subst hd; exact hc x (h' 2 _ x rfl hx)
    · simp at hd
theorem lt_stC {n : Nat} (s : St) : Lt n (.agg (stC s)) := .agg _ fun i c hi => by
  rcases i with _ | _ | _ | i <;> simp at hi <;> subst hi <;> first | exact .v _ | exact lt_en _
theorem copy5_spec (s : St) (hl : s.a.length ≤ 1048576) (H : List Box) : ASpec Tryz.prog 71 [.agg (stC s)] H (Gives (.agg (stC s)) H) := by
  obtain ⟨g, b, a⟩ := s
  dsimp only at *
  have hf : flat (enG a) = enF a := rfl
  have hfl := enF_length a
  refine ASpec.enter Tryz.func71 rfl (fun a w => Tryz.call71 a w) Tryz.ntmps71 Tryz.results71 fun base w β hI => ?_
  refine wk (wA hf wT) (wA DrM.mk wT) ?_
  refine wkEnd wT ?_
  exact Fin.frozG (r' := .agg (stC ⟨g, b, a⟩)) (G := enG a) (b := H.length + 2) (zbox _ _ 2 rfl) (Nat.le_add_right _ _) rfl (by dsimp only; omega) (chunk_enF a) (fun w H β v hx hr => rep_st hx hr) (lt_stC _) ⟨rfl, rfl⟩

end Go.Proofs.YtnlmdeeadldgmaaGreatDoor.VL

/- Layers 4, 6, 15: what the reference finds of tables and views. -/
-- STEPWISE
-- WK
set_option linter.unusedVariables false
set_option linter.unusedSimpArgs false
set_option maxRecDepth 10000
namespace Go.Proofs.YtnlmdeeadldgmaaGreatDoor.VL
open Go Go.RowKit Go.Lib

theorem find_drop {α : Type} {f : α → Bool} {l : List α} {i : Nat} {x : α} (h : l[i]? = some x) : (l.drop i).find? f = if f x = true then some x else (l.drop (i + 1)).find? f := by
  have hi := (List.getElem?_eq_some_iff.1 h).1
  rw [List.drop_eq_getElem_cons hi, (List.getElem?_eq_some_iff.1 h).2, List.find?_cons]
  cases f x <;> rfl
set_option maxHeartbeats 1000000 in
theorem refGet4_spec (l : List En) (key : Int) (hl : l.length ≤ 9223372036854775807) (H : List Box) : ASpec Tryz.prog 28 [.lst 3 (enG l), vi key] H (Gives (getV (getE l key)) H) := by
  unfold getV
  have h0 : getE l key = (l.drop 0).find? fun x => decide (x.k = key) := rfl
  generalize getE l key = r at *
  refine ASpec.enter Tryz.func28 rfl (fun a w => Tryz.call28 a w) Tryz.ntmps28 Tryz.results28 fun base w β hI => ?_
  refine wk wT (wA DrM.mk wT) ?_
  refine AWP.loop (ι := {i : Nat // i ≤ l.length ∧ r = (l.drop i).find? fun x => decide (x.k = key)})
    (fun p => ⟨[(0, .lst 3 (enG l)), (1, vi key), (4, .ptr H.length 0 0), (6, vi p.1)], H ++ [⟨[vi 0, vi 0, vs []], 0, 0, false⟩]⟩) (fun p => l.length - p.1) ⟨0, Nat.zero_le _, h0⟩ ?_ ?_
  · dsimp only
    exact Coe.kp
  · rintro ⟨i, hi, he⟩
    dsimp only
    clear h0
    by_cases hc : (i : Int) < (l.length : Int)
    · have hg : l[i]? = some l[i] := List.getElem?_eq_getElem (by omega)
      generalize l[i] = x at hg
      rw [find_drop hg] at he
      obtain ⟨k, v, s⟩ := x
      dsimp only at he
      by_cases hx : k = key
      · rw [if_pos (by simpa using hx)] at he
        rw [he]
        refine wk (wA hc (wA hg (wA hx wT))) (wA DrM.mk wT) ?_
        refine wkEnd wT ?_
        exact Fin.cut (ltE _ _ _ _) ⟨by rw [hx], rfl⟩
      · rw [if_neg (by simpa using hx)] at he
        refine wk (wA hc (wA hg (wA hx wT))) (wA DrM.mk wT) ?_
        refine ⟨⟨i + 1, by omega, he⟩, ?_, by dsimp only; omega⟩
        dsimp only
        exact Coe.kp
    · rw [List.drop_of_length_le (by omega), List.find?_nil] at he
      rw [he]
      refine wk (wA hc wT) (wA DrM.mk wT) ?_
      refine wkEnd wT ?_
      exact Fin.cut (ltE _ _ _ _) ⟨rfl, rfl⟩

theorem up15_spec (l : List En) (hl : l.length ≤ 9223372036854775807) (H : List Box) : ASpec Tryz.prog 48 [.lst 3 (enG l)] H (Gives (vb (upE l)) H) := by
  have hg := fun H => refGet4_spec l 0 hl H
  unfold upE
  cases hx : getE l 0 with
  | none =>
    rw [hx] at hg
    have hg : ∀ H, ASpec Tryz.prog 28 [.lst 3 (enG l), vi 0] H (Gives (.tup [.agg [vi 0, vi 0, vs []], vb false]) H) := hg
    refine ASpec.enter Tryz.func48 rfl (fun a w => Tryz.call48 a w) Tryz.ntmps48 Tryz.results48 fun base w β hI => ?_
    refine wk wT (wA hg (wA DrM.mk wT)) ?_
    refine wkEnd wT ?_
    exact Fin.cut (.v _) ⟨rfl, rfl⟩
  | some x =>
    rw [hx] at hg
    obtain ⟨k', v', s⟩ := x
    have hg : ∀ H, ASpec Tryz.prog 28 [.lst 3 (enG l), vi 0] H (Gives (.tup [.agg [vi k', vi v', vs s], vb true]) H) := hg
    dsimp only
    by_cases hs : s = [117, 112]
    · rw [decide_eq_true hs]
      refine ASpec.enter Tryz.func48 rfl (fun a w => Tryz.call48 a w) Tryz.ntmps48 Tryz.results48 fun base w β hI => ?_
      refine wk (wA hs wT) (wA hg (wA DrM.mk wT)) ?_
      refine wkEnd wT ?_
      exact Fin.cut (.v _) ⟨rfl, rfl⟩
    · rw [decide_eq_false hs]
      refine ASpec.enter Tryz.func48 rfl (fun a w => Tryz.call48 a w) Tryz.ntmps48 Tryz.results48 fun base w β hI => ?_
      refine wk (wA hs wT) (wA hg (wA DrM.mk wT)) ?_
      refine wkEnd wT ?_
      exact Fin.cut (.v _) ⟨rfl, rfl⟩

set_option maxHeartbeats 2000000 in
theorem address15_spec (l : List En) (key : Int) (hl : l.length ≤ 9223372036854775807) (H : List Box) : ASpec Tryz.prog 32 [.lst 3 (enG l), vi key] H (Gives (.tup [vs (addrE l key).1, vb (addrE l key).2]) H) := by
  have hg := fun H => refGet4_spec l key hl H
  unfold addrE
  cases hx : getE l key with
  | none =>
    rw [hx] at hg
    have hg : ∀ H, ASpec Tryz.prog 28 [.lst 3 (enG l), vi key] H (Gives (.tup [.agg [vi 0, vi 0, vs []], vb false]) H) := hg
    dsimp only
    refine ASpec.enter Tryz.func32 rfl (fun a w => Tryz.call32 a w) Tryz.ntmps32 Tryz.results32 fun base w β hI => ?_
    refine wk wT (wA hg (wA DrM.mk wT)) ?_
    refine wkEnd wT ?_
    exact Fin.cut (ltVV _ _) ⟨rfl, rfl⟩
  | some x =>
    rw [hx] at hg
    obtain ⟨k', v', s⟩ := x
    have hg : ∀ H, ASpec Tryz.prog 28 [.lst 3 (enG l), vi key] H (Gives (.tup [.agg [vi k', vi v', vs s], vb true]) H) := hg
    dsimp only
    by_cases h1 : key = 1
    · subst h1
      by_cases h4 : (s.length : Int) = 4
      · rw [if_pos (.inl ⟨rfl, by omega⟩)]
        refine ASpec.enter Tryz.func32 rfl (fun a w => Tryz.call32 a w) Tryz.ntmps32 Tryz.results32 fun base w β hI => ?_
        refine wk (wA h4 wT) (wA hg (wA DrM.mk wT)) ?_
        refine wkEnd wT ?_
        exact Fin.cut (ltVV _ _) ⟨rfl, rfl⟩
      · rw [if_neg (by omega)]
        refine ASpec.enter Tryz.func32 rfl (fun a w => Tryz.call32 a w) Tryz.ntmps32 Tryz.results32 fun base w β hI => ?_
        refine wk (wA h4 wT) (wA hg (wA DrM.mk wT)) ?_
        refine wkEnd wT ?_
        exact Fin.cut (ltVV _ _) ⟨rfl, rfl⟩
    · by_cases h2 : key = 2
      · subst h2
        clear h1
        by_cases h4 : (s.length : Int) = 16
        · rw [if_pos (.inr ⟨rfl, by omega⟩)]
          refine ASpec.enter Tryz.func32 rfl (fun a w => Tryz.call32 a w) Tryz.ntmps32 Tryz.results32 fun base w β hI => ?_
          refine wk (wA h4 wT) (wA hg (wA DrM.mk wT)) ?_
          refine wkEnd wT ?_
          exact Fin.cut (ltVV _ _) ⟨rfl, rfl⟩
        · rw [if_neg (by omega)]
          refine ASpec.enter Tryz.func32 rfl (fun a w => Tryz.call32 a w) Tryz.ntmps32 Tryz.results32 fun base w β hI => ?_
          refine wk (wA h4 wT) (wA hg (wA DrM.mk wT)) ?_
          refine wkEnd wT ?_
          exact Fin.cut (ltVV _ _) ⟨rfl, rfl⟩
      · rw [if_neg (by omega)]
        refine ASpec.enter Tryz.func32 rfl (fun a w => Tryz.call32 a w) Tryz.ntmps32 Tryz.results32 fun base w β hI => ?_
        refine wk (wA h1 (wA h2 wT)) (wA hg (wA DrM.mk wT)) ?_
        refine wkEnd wT ?_
        exact Fin.cut (ltVV _ _) ⟨rfl, rfl⟩

/-- An endpoint's state, or none. -/
def stNd (v : List Nd) (n : Int) : St := match getN v n with
  | some x => x.s
  | none => stZ
theorem stN_apps (s : Sc) (n : Int) : (stNd s.v n).a = appsN s n := by
  unfold stNd appsN
  cases getN s.v n <;> rfl
theorem lt_stb {n : Nat} (s : St) (b : Bool) : Lt n (.tup [.agg (stC s), vb b]) := .tup _ fun i c hi => by
  rcases i with _ | _ | i <;> simp at hi <;> subst hi
  · exact lt_stC s
  · exact .v _
theorem get6_spec (l : List Nd) (key : Int) (hl : l.length ≤ 1048576) (hx : ∀ x ∈ l, NdIn x) (H : List Box) : ASpec Tryz.prog 31 [.lst 4 (ndG l), vi key] H (Gives (.tup [.agg (stC (stNd l key)), vb (getN l key).isSome]) H) := by
  unfold stNd
  have h0 : getN l key = (l.drop 0).find? fun x => decide (x.n = key) := rfl
  generalize getN l key = r at *
  refine ASpec.enter Tryz.func31 rfl (fun a w => Tryz.call31 a w) Tryz.ntmps31 Tryz.results31 fun base w β hI => ?_
  refine wk wT (wA DrM.mk wT) ?_
  refine AWP.loop (ι := {i : Nat // i ≤ l.length ∧ r = (l.drop i).find? fun x => decide (x.n = key)})
    (fun p => ⟨[(0, .lst 4 (ndG l)), (1, vi key), (4, .ptr H.length 0 0), (6, vi p.1)], H ++ [⟨[vi 0, vi 0, .emp], 0, 0, false⟩]⟩) (fun p => l.length - p.1) ⟨0, Nat.zero_le _, h0⟩ ?_ ?_
  · dsimp only
    exact Coe.kp
  · rintro ⟨i, hi, he⟩
    dsimp only
    clear h0
    by_cases hc : (i : Int) < (l.length : Int)
    · have hg : l[i]? = some l[i] := List.getElem?_eq_getElem (by omega)
      have hxi := hx _ (List.getElem_mem (show i < l.length by omega))
      generalize l[i] = x at hg hxi
      rw [find_drop hg] at he
      have hcp := fun H => copy5_spec x.s hxi.a H
      obtain ⟨n, ⟨xg, b, a⟩⟩ := x
      dsimp only at he hcp
      clear hxi
      by_cases hx : n = key
      · rw [if_pos (by simpa using hx)] at he
        rw [he]
        refine wk (wA hc (wA hg (wA hx wT))) (wA hcp (wA DrM.mk wT)) ?_
        refine wkEnd wT ?_
        exact Fin.cut (lt_stb ⟨xg, b, a⟩ true) ⟨rfl, rfl⟩
      · rw [if_neg (by simpa using hx)] at he
        refine wk (wA hc (wA hg (wA hx wT))) (wA DrM.mk wT) ?_
        refine ⟨⟨i + 1, by omega, he⟩, ?_, by dsimp only; omega⟩
        dsimp only
        exact Coe.kp
    · rw [List.drop_of_length_le (by omega), List.find?_nil] at he
      rw [he]
      refine wk (wA hc wT) (wA DrM.mk wT) ?_
      refine wkEnd wT ?_
      exact ⟨_, _, Shed.trans (Shed.weak fun w β v hr => rep_tup_sw (fun x hx => rep_st (c' := .lst 3 (enG [])) (fun y hy => by cases hy with | emp a => exact .lst0 _ _ _) hx) hr) (Shed.cut (lt_stb stZ false)), rfl, rfl⟩

def gr6Go : Nat → List Nd → Bool
  | _, [] => false
  | i, d :: l => if i < 41 then (great4 d.s.a || gr6Go (i + 1) l) else false
theorem gr6Go_drop {l : List Nd} {i : Nat} {x : Nd} (h : l[i]? = some x) : gr6Go i (l.drop i) = if i < 41 then (great4 x.s.a || gr6Go (i + 1) (l.drop (i + 1))) else false := by
  have hi := (List.getElem?_eq_some_iff.1 h).1
  rw [List.drop_eq_getElem_cons hi, gr6Go, (List.getElem?_eq_some_iff.1 h).2]
def great6 (l : List Nd) : Bool := gr6Go 0 l || decide (40 < l.length)
/-- As read: any sizes. -/
def NdAny (x : Nd) : Prop := x.s.a.length ≤ 9223372036854775807 ∧ ∀ y ∈ x.s.a, y.s.length ≤ 9223372036854775807
set_option maxHeartbeats 2000000 in
theorem great6_spec (l : List Nd) (hl : l.length ≤ 9223372036854775807) (hd : ∀ d ∈ l, NdAny d) (H : List Box) : ASpec Tryz.prog 50 [.lst 4 (ndG l)] H (Gives (vb (great6 l)) H) := by
  have h0 : great6 l = (gr6Go 0 (l.drop 0) || decide (40 < l.length)) := rfl
  generalize great6 l = r at *
  refine ASpec.enter Tryz.func50 rfl (fun a w => Tryz.call50 a w) Tryz.ntmps50 Tryz.results50 fun base w β hI => ?_
  refine wk wT (wA DrM.mk wT) ?_
  refine AWP.loop (ι := {i : Nat // i ≤ l.length ∧ r = (gr6Go i (l.drop i) || decide (40 < l.length))})
    (fun p => ⟨[(0, .lst 4 (ndG l)), (3, vi p.1)], H⟩) (fun p => l.length - p.1) ⟨0, Nat.zero_le _, h0⟩ ?_ ?_
  · dsimp only
    exact Coe.kp
  · rintro ⟨i, hi, he⟩
    dsimp only at hi he ⊢
    by_cases hc : (i : Int) < (l.length : Int)
    · have hg : l[i]? = some l[i] := List.getElem?_eq_getElem (by omega)
      have hin := hd l[i] (List.getElem_mem _)
      rw [gr6Go_drop hg] at he
      generalize l[i] = x at *
      have hr := fun H => refGreat5_spec x.s hin.1 hin.2 H
      obtain ⟨n, g, b, a⟩ := x
      dsimp only at he hr
      clear hin hd
      by_cases h41 : (i : Int) < 41
      · rw [if_pos (by omega)] at he
        cases hq : great4 a with
        | true =>
          rw [hq] at he hr
          rw [Bool.true_or, Bool.true_or] at he
          rw [he]
          refine wk (wA hc (wA hg (wA h41 wT))) (wA hr (wA DrM.mk wT)) ?_
          refine wkEnd wT ?_
          exact Fin.same ⟨rfl, rfl⟩
        | false =>
          rw [hq] at he hr
          rw [Bool.false_or] at he
          refine wk (wA hc (wA hg (wA h41 wT))) (wA hr (wA DrM.mk wT)) ?_
          refine ⟨⟨i + 1, by omega, he⟩, ?_, by dsimp only; omega⟩
          dsimp only
          exact Coe.kp
      · rw [if_neg (by omega), Bool.false_or, decide_eq_true (by omega)] at he
        rw [he]
        have hl40 : (40 : Int) < (l.length : Int) := by omega
        clear hr
        refine wk (wA hc (wA h41 (wA hl40 wT))) (wA DrM.mk wT) ?_
        refine wkEnd wT ?_
        exact Fin.same ⟨rfl, rfl⟩
    · rw [List.drop_of_length_le (by omega), gr6Go, Bool.false_or] at he
      rw [he]
      by_cases hl40 : (40 : Int) < (l.length : Int)
      · rw [decide_eq_true (by omega)]
        refine wk (wA hc (wA hl40 wT)) (wA DrM.mk wT) ?_
        refine wkEnd wT ?_
        exact Fin.same ⟨rfl, rfl⟩
      · rw [decide_eq_false (by omega)]
        refine wk (wA hc (wA hl40 wT)) (wA DrM.mk wT) ?_
        refine wkEnd wT ?_
        exact Fin.same ⟨rfl, rfl⟩

end Go.Proofs.YtnlmdeeadldgmaaGreatDoor.VL

/- The value logic, part 14: from a contract without boxes to a given row. -/
set_option linter.unusedVariables false
set_option linter.unusedSimpArgs false
namespace Go.Proofs.YtnlmdeeadldgmaaGreatDoor.VL
open Go Go.RowKit Go.Lib Go.ChangeShapes Go.WideShapes

def noP : Pl := fun _ => none
theorem not_wr (k x : Nat) : ¬ Wr [] noP k x := by rintro ⟨i, bx, s, h, _⟩; simp at h
/-- Package variables that nobody writes lie as they were laid. -/
def Glob (w : World) : Prop := ∀ (g j : Nat) (v : Value), (gvals g)[j]? = some v → g < w.heap.size ∧ w.cell? ⟨g, j, none⟩ = some v ∧ v.oneCell' = true
theorem inv_nil (w : World) (hg : Glob w) : Inv w.heap.size w [] noP :=
  ⟨⟨Nat.le_refl _, hg⟩, fun i bx h => by simp at h, fun i bx h => by simp at h, fun i bx k s h => by simp at h, fun i bx k s h => by simp at h, fun k x h => absurd h (not_wr k x), fun i i' bx bx' k s s' x _ h => by simp at h⟩

theorem below_of_stp {w w' : World} {H' : List Box} {β' : Pl} (h : Stp w.heap.size w [] noP w' H' β') : Below w.heap.size w w' :=
  ⟨h.os, h.tape, h.output, h.size, fun k hk => by
    have hk' : k < w'.heap.size := Nat.lt_of_lt_of_le hk h.size
    rw [Array.getElem?_eq_getElem hk]
    cases ho : w.heap[k] with
    | cells c e fr =>
      have hs : w.heap[k]? = some (.cells c e fr) := by rw [Array.getElem?_eq_getElem hk, ho]
      obtain ⟨c', fr', h1, h2, h3, _⟩ := h.shape k c e fr hs
      rw [h1, h3 hk]
      have : c' = c := by
        apply Array.ext_getElem?
        intro j
        have := h.keep k j hk (not_wr k j)
        simpa [World.cell?, h1, hs] using this
      rw [this]
    | _ => exact h.other k _ (by rw [Array.getElem?_eq_getElem hk, ho]) (by intro c e fr hh; cases hh)⟩

section
variable {H : Type} {enc : TypeId × Value → H} {P : Program}

theorem trodAll_below (hl : laidOutB P = true) {W W' : World} (hb : Below W.heap.size W W') : ∀ (ts : List TypeId) (vs : List Value) (ds : List (DataW H)) (ps : List MemPlace), (∀ t ∈ ts, P.readableRec t = true ∧ t < P.types.size) → (∀ x ∈ ps, x.block < W.heap.size) →
    DataW.TrodAll enc P W 0 (fun _ => true) true ts vs ds ps → DataW.TrodAll enc P W' 0 (fun b => decide (b < W.heap.size)) true ts vs ds ps := by
  intro ts
  induction ts with
  | nil => intro vs ds ps _ _ h; obtain ⟨rfl, rfl, rfl⟩ := trodAll_nil h; trivial
  | cons t ts ih =>
    intro vs ds ps ht hlt h
    obtain ⟨v, vs', d, ds', p, q, rfl, rfl, rfl, h1, h2⟩ := trodAll_cons h
    have h3 := ht t (by simp)
    exact ⟨p, q, Below.trod hl h3.1 h3.2 h1 hb (fun x hx => hlt x (by simp [hx])), ih vs' ds' q (fun t h => ht t (by simp [h])) (fun x hx => hlt x (by simp [hx])) h2, rfl⟩

/-- A law that returns true, as its row has it. -/
theorem law_calls {f : FuncId} {fn : Func} {s : ChangeSpec} {apart fresh handsOn : Bool} {W : World} {args : Array Value} {ds gs : List (DataW H)} {before : List MemPlace} {tb : TypeId} {avs : List AV}
    (hl : laidOutB P = true) (hts' : fn.params.toList.all (fun t => P.readableRec t && decide (t < P.types.size)) = true) (hv : s.vars = []) (hW : DataW.Whole enc P fn.params.toList s.vars apart W args.toList ds gs before)
    (hres : fn.resultTypes = #[tb]) (hub : P.underlying tb = some .bool) (hs : s.fn H (ds ++ gs) = { results := [.lit (.bool true)], args := ds })
    (hr : Reps W [] noP avs args) (hc : ASpec P f avs [] (fun o H' => o = .ret (.v (.bool true)) ∧ H' = [])) (hen : enters P f) (hgl : Glob W := by intro g j v h; simp [gvals] at h) :
    Calls P f args W fun e W' => ∃ v, e = .returned v ∧ s.post enc P fn apart fresh handsOn false W args v W' := by
  have hts : ∀ t ∈ fn.params.toList, P.readableRec t = true ∧ t < P.types.size := fun t ht => by
    have := List.all_eq_true.1 hts' t ht
    simpa using this
  have hcalls := (hc W.heap.size) W noP args (inv_nil W hgl) hr
  rcases hcalls with ⟨_, hcalls⟩ | ⟨v, w', h1, _⟩
  rotate_left
  · rw [hen args W] at h1
    cases h1
  refine hcalls.mono fun e W' ⟨out, H', β', hK, k2, k3, k4⟩ => ?_
  obtain ⟨rfl, rfl⟩ := hK
  cases e with
  | panicked c => exact k2.elim
  | outgrown => exact k2.elim
  | returned v =>
    cases k2
    have hB := below_of_stp k4
    have hW0 := hW
    obtain ⟨p, q, hA, hV, hpq, _⟩ := hW
    rw [hv] at hV
    obtain ⟨rfl, rfl⟩ := trodVars_none hV
    have hlt : ∀ x ∈ p, x.block < W.heap.size := fun x hx => hW0.lt x (by rw [hpq]; simp [hx])
    refine ⟨_, rfl, ds, [], before, [], p, [], hW0, ?_, ?_, ?_, hB.frame _, fun h => by cases h⟩
    · rw [hs, hres]
      exact trodAll_mk1 (shut_bool hub true)
    · rw [hs]
      exact trodAll_below hl hB _ _ _ _ hts hlt hA
    · rw [hs, hv]
      trivial

/-! ### Arguments -/
theorem reps_nil {w : World} : Reps w [] noP [] #[] := ⟨rfl, fun i c x h => by simp at h⟩
theorem reps_cons {w : World} {H0 : List Box} {β : Pl} {c : AV} {x : Value} {cs : List AV} {xs : List Value} (h : Rep w H0 β c x) (hs : Reps w H0 β cs xs.toArray) : Reps w H0 β (c :: cs) (x :: xs).toArray :=
  ⟨by have := hs.1; simp at this ⊢; exact this, fun i c' x' h1 h2 => by
    cases i with
    | zero => simp at h1 h2; subst h1; subst h2; exact h
    | succ i => exact hs.2 i c' x' (by simpa using h1) (by simpa using h2)⟩

/-- A slice of numbers of a kind, as an argument. -/
theorem repc_nums {W : World} {t e : TypeId} {k : IntKind} {v : Value} {fuel : Nat} {x : DataW H × List MemPlace} (ht : P.underlying t = some (.slice e)) (he : P.underlying e = some (.int k)) (hc : P.cellsOf e = 1)
    (hf : DataW.trod enc P W 0 (fun _ => true) true fuel t [v] = some x) : ∃ l : List Int, Rep W [] noP (.lst 1 (l.map fun n => [.v (.int k n)])) v ∧ (∀ n ∈ l, k.min ≤ n ∧ n ≤ k.max) ∧ l.length ≤ 9223372036854775807 := by
  rcases Go.ChangeShapes.open_ints ht he hc hf with ⟨h, _⟩ | ⟨a', len, cap, zs, h, hb, hlc, hm, hzl, hx, hcell, hwf⟩
  · injection h with h _
    subst h
    exact ⟨[], .lst0 1 none 0, by simp, by simp⟩
  · injection h with h _
    subst h
    have hwf' : ∀ n ∈ zs, k.min ≤ n ∧ n ≤ k.max := fun n hn => by simpa [Lit.wf] using hwf n hn
    simp only [if_true] at hzl
    refine ⟨zs.take len, ?_, fun n hn => hwf' n (List.mem_of_mem_take hn), by simp only [maxLen] at hm; simp; omega⟩
    rcases Nat.eq_zero_or_pos len with h0 | h0
    · subst h0
      exact .lst0 1 _ _
    · have hsp : a'.spot = none := by
        have := hcell 0 (by omega)
        unfold World.cell? at this
        split at this
        · cases hs : a'.spot with
          | none => rfl
          | some y => simp [Addr.add, hs] at this
        · cases this
      obtain ⟨k0, s0, sp⟩ := a'
      dsimp only at hsp
      subst hsp
      have hlen : ((zs.take len).map fun n => [AV.v (.int k n)]).length = len := by simp; omega
      have := Rep.lst (w := W) (H := []) (β := noP) 1 ((zs.take len).map fun n => [AV.v (.int k n)]) k0 s0 cap (fun i _ => .int k (zs.getD i 0)) (by omega) (fun i g hg => by
          simp only [List.getElem?_map] at hg
          obtain ⟨n, _, rfl⟩ := Option.map_eq_some_iff.1 hg
          rfl) (fun i j g c hi hj => by
          have hil := (List.getElem?_eq_some_iff.1 hi).1
          simp only [List.getElem?_map] at hi
          obtain ⟨n, hn, rfl⟩ := Option.map_eq_some_iff.1 hi
          have hj0 : j = 0 := by
            have := (List.getElem?_eq_some_iff.1 hj).1
            simp at this
            exact this
          subst hj0
          have := hcell i (by omega)
          have h1 : W.cell? ⟨k0, s0 + i, none⟩ = some (.int k (zs.getD i 0)) := by
            simp only [Addr.add] at this
            split at this
            · rename_i hi0; subst hi0; exact this
            · exact this
          exact ⟨by rw [Nat.mul_one, Nat.add_zero]; exact h1, rfl, not_wr _ _⟩) (fun i j g c hi hj => by
          simp only [List.getElem?_map] at hi
          obtain ⟨n, hn, rfl⟩ := Option.map_eq_some_iff.1 hi
          have hj0 : j = 0 := by
            have := (List.getElem?_eq_some_iff.1 hj).1
            simp at this
            exact this
          subst hj0
          simp at hj
          subst hj
          have hil : i < len := by
            have := (List.getElem?_eq_some_iff.1 hn).1
            simp at this
            omega
          rw [List.getElem?_take_of_lt hil] at hn
          rw [List.getD, hn]
          exact .v _)
      rw [hlen] at this
      exact this
theorem bytes_of_ints {l : List Int} (h2 : ∀ n ∈ l, IntKind.min .u8 ≤ n ∧ n ≤ IntKind.max .u8) : bytesG (l.map fun n => UInt8.ofNat n.toNat) = l.map fun n => [AV.v (.int .u8 n)] := by
  unfold bytesG
  rw [List.map_map]
  refine List.map_congr_left fun n hn => ?_
  obtain ⟨g1, g2⟩ := h2 n hn
  simp only [IntKind.min, IntKind.max, IntKind.signed, IntKind.bits] at g1 g2
  have e : ((UInt8.ofNat n.toNat).toNat : Int) = n := by
    rw [UInt8.toNat_ofNat']
    simp at g1 g2
    omega
  simp only [Function.comp, e]
theorem repc_bytes {W : World} {t e : TypeId} {v : Value} {fuel : Nat} {x : DataW H × List MemPlace} (ht : P.underlying t = some (.slice e)) (he : P.underlying e = some (.int .u8)) (hc : P.cellsOf e = 1)
    (hf : DataW.trod enc P W 0 (fun _ => true) true fuel t [v] = some x) : ∃ bs : List UInt8, Rep W [] noP (.lst 1 (bytesG bs)) v ∧ bs.length ≤ 9223372036854775807 := by
  obtain ⟨l, h1, h2, h3⟩ := repc_nums ht he hc hf
  exact ⟨l.map fun n => UInt8.ofNat n.toNat, by rw [bytes_of_ints h2]; exact h1, by simpa using h3⟩
theorem repc_int {W : World} {t : TypeId} {k : IntKind} {v : Value} {fuel : Nat} {x : DataW H × List MemPlace} (ht : P.underlying t = some (.int k)) (hf : DataW.trod enc P W 0 (fun _ => true) true fuel t [v] = some x) :
    ∃ n, Rep W [] noP (.v (.int k n)) v ∧ k.min ≤ n ∧ n ≤ k.max := by
  obtain ⟨n, h, _, hw⟩ := DataW.trod_int ht hf
  injection h with h _
  subst h
  exact ⟨n, .v _, by simpa [Lit.wf] using hw⟩
theorem repc_string {W : World} {t : TypeId} {v : Value} {fuel : Nat} {x : DataW H × List MemPlace} (ht : P.underlying t = some .string) (hf : DataW.trod enc P W 0 (fun _ => true) true fuel t [v] = some x) :
    ∃ s : List UInt8, Rep W [] noP (.v (.string ⟨s.toArray⟩)) v ∧ s.length ≤ 9223372036854775807 := by
  obtain ⟨s, h, _, hs⟩ := DataW.trod_string ht hf
  injection h with h _
  subst h
  exact ⟨s.data.toList, .v _, by simpa [maxLen] using hs⟩
theorem rep_nums {W : World} {b0 : Nat} {t e : TypeId} {k : IntKind} {v : Value} {d : DataW H} {ps : List MemPlace} (ht : P.underlying t = some (.slice e)) (he : P.underlying e = some (.int k)) (hc : P.cellsOf e = 1)
    (hval : Value.okWide P W .any b0 t v) (hd : DataW.Trod enc P W 0 (fun _ => true) true t v d ps) : ∃ l : List Int, Rep W [] noP (.lst 1 (l.map fun n => [.v (.int k n)])) v ∧ ∀ n ∈ l, k.min ≤ n ∧ n ≤ k.max := by
  obtain ⟨a, len, cap, rfl⟩ := okWide_slice ht hval
  obtain ⟨fuel, hf⟩ := hd
  rcases Go.ChangeShapes.open_ints ht he hc hf with ⟨h, _⟩ | ⟨a', len', cap', zs, h, hb, hlc, hm, hzl, hx, hcell, hwf⟩
  · simp [Value.cells] at h
    obtain ⟨rfl, rfl, rfl⟩ := h
    exact ⟨[], .lst0 1 none 0, by simp⟩
  · simp [Value.cells] at h
    obtain ⟨rfl, rfl, rfl⟩ := h
    have hwf' : ∀ n ∈ zs, k.min ≤ n ∧ n ≤ k.max := fun n hn => by simpa [Lit.wf] using hwf n hn
    simp only [if_true] at hzl
    refine ⟨zs.take len, ?_, fun n hn => hwf' n (List.mem_of_mem_take hn)⟩
    rcases Nat.eq_zero_or_pos len with h0 | h0
    · subst h0
      exact .lst0 1 _ _
    · have hsp : a'.spot = none := by
        have := hcell 0 (by omega)
        unfold World.cell? at this
        split at this
        · cases hs : a'.spot with
          | none => rfl
          | some y => simp [Addr.add, hs] at this
        · cases this
      obtain ⟨k0, s0, sp⟩ := a'
      dsimp only at hsp
      subst hsp
      have hlen : ((zs.take len).map fun n => [AV.v (.int k n)]).length = len := by simp; omega
      have := Rep.lst (w := W) (H := []) (β := noP) 1 ((zs.take len).map fun n => [AV.v (.int k n)]) k0 s0 cap (fun i _ => .int k (zs.getD i 0)) (by omega) (fun i g hg => by
          simp only [List.getElem?_map] at hg
          obtain ⟨n, _, rfl⟩ := Option.map_eq_some_iff.1 hg
          rfl) (fun i j g c hi hj => by
          have hil := (List.getElem?_eq_some_iff.1 hi).1
          simp only [List.getElem?_map] at hi
          obtain ⟨n, hn, rfl⟩ := Option.map_eq_some_iff.1 hi
          have hj0 : j = 0 := by
            have := (List.getElem?_eq_some_iff.1 hj).1
            simp at this
            exact this
          subst hj0
          have := hcell i (by omega)
          have h1 : W.cell? ⟨k0, s0 + i, none⟩ = some (.int k (zs.getD i 0)) := by
            simp only [Addr.add] at this
            split at this
            · rename_i hi0; subst hi0; exact this
            · exact this
          exact ⟨by rw [Nat.mul_one, Nat.add_zero]; exact h1, rfl, not_wr _ _⟩) (fun i j g c hi hj => by
          simp only [List.getElem?_map] at hi
          obtain ⟨n, hn, rfl⟩ := Option.map_eq_some_iff.1 hi
          have hj0 : j = 0 := by
            have := (List.getElem?_eq_some_iff.1 hj).1
            simp at this
            exact this
          subst hj0
          simp at hj
          subst hj
          have hil : i < len := by
            have := (List.getElem?_eq_some_iff.1 hn).1
            simp at this
            omega
          rw [List.getElem?_take_of_lt hil] at hn
          rw [List.getD, hn]
          exact .v _)
      rw [hlen] at this
      exact this
theorem rep_bytes {W : World} {b0 : Nat} {t e : TypeId} {v : Value} {d : DataW H} {ps : List MemPlace} (ht : P.underlying t = some (.slice e)) (he : P.underlying e = some (.int .u8)) (hc : P.cellsOf e = 1)
    (hval : Value.okWide P W .any b0 t v) (hd : DataW.Trod enc P W 0 (fun _ => true) true t v d ps) : ∃ bs : List UInt8, Rep W [] noP (.lst 1 (bytesG bs)) v := by
  obtain ⟨l, h1, h2⟩ := rep_nums ht he hc hval hd
  refine ⟨l.map fun n => UInt8.ofNat n.toNat, ?_⟩
  have : bytesG (l.map fun n => UInt8.ofNat n.toNat) = l.map fun n => [AV.v (.int .u8 n)] := by
    unfold bytesG
    rw [List.map_map]
    refine List.map_congr_left fun n hn => ?_
    obtain ⟨g1, g2⟩ := h2 n hn
    simp only [IntKind.min, IntKind.max, IntKind.signed, IntKind.bits] at g1 g2
    have e : ((UInt8.ofNat n.toNat).toNat : Int) = n := by
      rw [UInt8.toNat_ofNat']
      simp at g1 g2
      omega
    simp only [Function.comp, e]
  rw [this]
  exact h1
theorem rep_int {W : World} {b0 : Nat} {t : TypeId} {k : IntKind} {v : Value} {d : DataW H} {ps : List MemPlace} (ht : P.underlying t = some (.int k)) (hval : Value.okWide P W .any b0 t v) (hd : DataW.Trod enc P W 0 (fun _ => true) true t v d ps) :
    ∃ n, Rep W [] noP (.v (.int k n)) v ∧ k.min ≤ n ∧ n ≤ k.max := by
  obtain ⟨n, rfl, _, _, hw⟩ := open_int ht hval hd
  exact ⟨n, .v _, by simpa [Lit.wf] using hw⟩
theorem rep_string {W : World} {b0 : Nat} {t : TypeId} {v : Value} {d : DataW H} {ps : List MemPlace} (ht : P.underlying t = some .string) (hval : Value.okWide P W .any b0 t v) (hd : DataW.Trod enc P W 0 (fun _ => true) true t v d ps) :
    ∃ s : List UInt8, Rep W [] noP (.v (.string ⟨s.toArray⟩)) v ∧ s.length ≤ 9223372036854775807 := by
  obtain ⟨s, rfl, _, _, hs⟩ := ChangeMaps.open_string ht hval hd
  exact ⟨s.data.toList, .v _, by simpa [maxLen] using hs⟩
end

end Go.Proofs.YtnlmdeeadldgmaaGreatDoor.VL

/- Layer 18: what the document tells, in plain values, and that it is the same. -/
import Derived.Test.YtnlmdeeadldgmaaGreatDoorZG28
import Derived.Test.YtnlmdeeadldgmaaGreatDoorZVLWalk
import Derived.Test.YtnlmdeeadldgmaaGreatDoorZG22
import Derived.Test.YtnlmdeeadldgmaaGreatDoorZG21
import Derived.Test.YtnlmdeeadldgmaaGreatDoorZG17
set_option linter.unusedVariables false
set_option linter.unusedSimpArgs false
namespace Go.Proofs.YtnlmdeeadldgmaaGreatDoor.VL
open Go Go.RowKit Go.Lib

theorem winN_some {d : List UInt8} {l : List (List UInt8)} (h : (winN d l).2 = true) : (lab d).isSome = true ∧ lab (winN d l).1 = some (l ++ labelsN d) ∧ okL (l ++ labelsN d) ∧ (winN d l).1 = joinB (l ++ labelsN d) ++ [0] ∧ (joinB (l ++ labelsN d)).length ≤ 254 := by
  unfold winN at h ⊢
  split at h
  · rename_i hc
    rw [if_pos hc]
    have h1 : joinN (l ++ labelsN d) = ((joinN (l ++ labelsN d)).1, 0) := by rw [← hc.2]
    obtain ⟨e1, e2, e3, e4⟩ := joinN_some h1
    exact ⟨hc.1, e4, e2, e1, e3⟩
  · cases h
theorem winN_none {d : List UInt8} {l : List (List UInt8)} (h : (winN d l).2 = false) : (winN d l).1 = [] := by
  unfold winN at h ⊢
  split at h
  · cases h
  · rename_i hc; rw [if_neg hc]
theorem winN_len (d : List UInt8) (l : List (List UInt8)) : (winN d l).1.length ≤ 255 := by
  cases h : (winN d l).2 with
  | false => rw [winN_none h]; simp
  | true => obtain ⟨_, _, _, e, hl⟩ := winN_some h; rw [e]; simp; omega
theorem sameN_lab {a b : List UInt8} (h : sameN a b = true) : ∃ l m, lab a = some l ∧ lab b = some m ∧ lowL l = lowL m := by
  cases ha : lab a with
  | none => rw [sameN, ha] at h; simp at h
  | some l =>
    cases hb : lab b with
    | none => rw [sameN, ha, hb] at h; simp at h
    | some m =>
      rw [sameN_iff ha hb] at h
      exact ⟨l, m, rfl, rfl, by simpa using h⟩
theorem digN_inj {n m : Int} (h0 : 0 ≤ n ∧ n < 8) (h1 : 0 ≤ m ∧ m < 8) (h : (digN n).map lowU = (digN m).map lowU) : n = m := by
  have e : ∀ k : Nat, k < 8 → (lowU (UInt8.ofNat (48 + k))).toNat = 48 + k := by decide
  simp only [digN, List.map_cons, List.map_nil, List.cons.injEq, and_true, true_and] at h
  have h2 := congrArg UInt8.toNat h
  rw [e _ (by omega), e _ (by omega)] at h2
  omega
theorem hosts_inj {d name : List UInt8} {x y : Nd} (hx : hosts d x name = true) (hy : hosts d y name = true) : x.n = y.n := by
  unfold hosts hostN at hx hy
  split at hx
  · rename_i h0
    split at hy
    · rename_i h1
      simp only [Bool.and_eq_true] at hx hy
      obtain ⟨_, a1, a2, _, _⟩ := winN_some hx.1
      obtain ⟨_, b1, b2, _, _⟩ := winN_some hy.1
      obtain ⟨l, m, c1, c2, c3⟩ := sameN_lab hx.2
      obtain ⟨l', m', e1, e2, e3⟩ := sameN_lab hy.2
      rw [a1] at c1
      rw [b1] at e1
      rw [c2] at e2
      injection c1 with c1
      injection e1 with e1
      injection e2 with e2
      subst c1; subst e1; subst e2
      have h := c3.trans e3.symm
      simp only [lowL, List.cons_append, List.nil_append, List.map_cons, List.cons.injEq] at h
      exact digN_inj h0 h1 h.1
    · simp at hy
  · simp at hx
/-- Where one thing at most is so. -/
theorem flatMap_one {α β : Type} {p : α → Bool} {g : α → List β} : ∀ (l : List α), (l.Pairwise fun x y => ¬ (p x = true ∧ p y = true)) → (l.flatMap fun x => if p x = true then g x else []) = match l.find? p with
    | some x => g x
    | none => []
  | [], _ => rfl
  | x :: l, h => by
    rw [List.pairwise_cons] at h
    rw [List.flatMap_cons, List.find?_cons]
    cases hp : p x with
    | true =>
      have hz : (l.flatMap fun y => if p y = true then g y else []) = [] := by
        rw [List.flatMap_eq_nil_iff]
        intro y hy
        have := h.1 y hy
        rw [if_neg (fun hh => this ⟨hp, hh⟩)]
      rw [hz]; simp
    | false =>
      simp only [Bool.false_eq_true, if_false, List.nil_append]
      exact flatMap_one l h.2
theorem ndGo_pw : ∀ {l : List Nd} {last : Int}, ndGo last l = true → (∀ x ∈ l, last < x.n ∧ x.n < 8 ∧ stOk x.s = true) ∧ l.Pairwise fun x y => x.n < y.n
  | [], _, _ => ⟨by simp, .nil⟩
  | d :: l, last, h => by
    unfold ndGo at h
    simp only [Bool.and_eq_true, decide_eq_true_eq] at h
    obtain ⟨h1, h2⟩ := ndGo_pw h.2.2.2
    refine ⟨fun x hx => ?_, List.pairwise_cons.2 ⟨fun y hy => (h1 y hy).1, h2⟩⟩
    rcases List.mem_cons.1 hx with rfl | hx
    · exact ⟨h.1, h.2.1, h.2.2.1⟩
    · have := h1 x hx
      exact ⟨by omega, this.2⟩
theorem ndOk_mem {l : List Nd} (h : ndOk l = true) {x : Nd} (hx : x ∈ l) : 0 ≤ x.n ∧ x.n < 8 ∧ stOk x.s = true := by
  have := (ndGo_pw h).1 x hx
  exact ⟨by omega, this.2⟩
theorem ndOk_len {l : List Nd} (h : ndOk l = true) : l.length ≤ 8 := by
  have h1 := (ndGo_pw h).1
  have h2 := (ndGo_pw h).2
  have : ∀ (l : List Nd) (k : Int), 0 ≤ k + 1 → (∀ x ∈ l, k < x.n ∧ x.n < 8) → (l.Pairwise fun x y => x.n < y.n) → (l.length : Int) ≤ 7 - k ∨ l = [] := by
    intro l
    induction l with
    | nil => intro k _ _ _; exact .inr rfl
    | cons x l ih =>
      intro k hk hx hp
      rw [List.pairwise_cons] at hp
      have hx0 := hx x (by simp)
      left
      rcases ih x.n (by omega) (fun y hy => ⟨hp.1 y hy, (hx y (by simp [hy])).2⟩) hp.2 with h | h
      · simp only [List.length_cons]; omega
      · subst h; simp; omega
  rcases this l (-1) (by omega) (fun x hx => ⟨(h1 x hx).1, (h1 x hx).2.1⟩) h2 with h | h
  · omega
  · subst h; simp
theorem cntL_pw {s : Sc} (h : ndOk s.v = true) : (cntL s).Pairwise fun x y => x.n < y.n := (ndGo_pw h).2.filter _
theorem cntL_mem {s : Sc} {x : Nd} (h : x ∈ cntL s) : x ∈ s.v ∧ s.a.contains x.n = true ∧ upE x.s.a = true := by
  unfold cntL at h
  rw [List.mem_filter, Bool.and_eq_true] at h
  exact ⟨h.1, h.2.1, h.2.2⟩
/-- An endpoint's state, in a view. -/
def getN (v : List Nd) (n : Int) : Option Nd := v.find? fun x => decide (x.n = n)
theorem getN_mem {v : List Nd} (h : v.Pairwise fun x y => x.n < y.n) {x : Nd} (hx : x ∈ v) : getN v x.n = some x := by
  unfold getN
  induction v with
  | nil => cases hx
  | cons y v ih =>
    rw [List.pairwise_cons] at h
    rw [List.find?_cons]
    rcases List.mem_cons.1 hx with rfl | hx
    · simp
    · have := h.1 x hx
      rw [decide_eq_false (by omega)]
      exact ih h.2 hx

/-- The document's. -/
def refHost (s : Sc) (name : List UInt8) : Int := match (cntL s).find? (fun x => hosts s.d x name) with
  | some x => x.n
  | none => -1
def appsN (s : Sc) (n : Int) : List En := match getN s.v n with
  | some x => x.s.a
  | none => []
def refOff (s : Sc) (n : Int) (name : List UInt8) : List Sv := (allS (appsN s n)).filter (offF s.d name)
def refExists (s : Sc) (name : List UInt8) : Bool := if sameN name s.d = true ∨ 0 ≤ refHost s name then true else (cntL s).any fun x => !(refOff s x.n name).isEmpty
def refTellD (s : Sc) (name : List UInt8) (t : Int) : List (List UInt8) :=
  if t = 1 ∨ t = 28 then (if 0 ≤ refHost s name ∧ (addrE (appsN s (refHost s name)) (if t = 28 then 2 else 1)).2 = true then [(addrE (appsN s (refHost s name)) (if t = 28 then 2 else 1)).1] else [])
  else if t = 2 then (if sameN name s.d = true ∧ (winN s.d [[110, 115]]).2 = true then [(winN s.d [[110, 115]]).1] else [])
  else if t = 6 then (if sameN name s.d = true ∧ startOk s.d = true then [soaB s.d] else [])
  else if t = 33 then ((cntL s).flatMap fun x => if (hostN s.d x.n).2 then (refOff s x.n name).map fun v => bes 2 [v.i, v.w, v.o] ++ (hostN s.d x.n).1 else [])
  else []
theorem appsN_mem {s : Sc} (h : ndOk s.v = true) {x : Nd} (hx : x ∈ cntL s) : appsN s x.n = x.s.a := by
  unfold appsN
  rw [getN_mem (ndGo_pw h).2 (cntL_mem hx).1]
theorem refOff_eq {s : Sc} (h : ndOk s.v = true) {x : Nd} (hx : x ∈ cntL s) (name : List UInt8) : refOff s x.n name = offL s.d x name := by
  unfold refOff offL
  rw [appsN_mem h hx]
theorem refHost_some {s : Sc} (h : ndOk s.v = true) (name : List UInt8) : (0 ≤ refHost s name) ↔ ((cntL s).any fun x => hosts s.d x name) = true := by
  unfold refHost
  cases hf : (cntL s).find? (fun x => hosts s.d x name) with
  | none =>
    rw [List.find?_eq_none] at hf
    constructor
    · intro h; exact absurd h (by decide)
    · intro ha
      obtain ⟨x, h1, h2⟩ := List.any_eq_true.1 ha
      exact absurd h2 (hf x h1)
  | some x =>
    have h1 := List.find?_some hf
    have h2 := List.mem_of_find?_eq_some hf
    have h3 := ndOk_mem h (cntL_mem h2).1
    exact ⟨fun _ => List.any_eq_true.2 ⟨x, h2, h1⟩, fun _ => h3.1⟩
theorem any_or {α : Type} (p q : α → Bool) : ∀ l : List α, (l.any fun x => p x || q x) = (l.any p || l.any q)
  | [] => rfl
  | x :: l => by
    simp only [List.any_cons, any_or p q l]
    cases p x <;> cases q x <;> cases l.any p <;> rfl
theorem any_congr {α : Type} {p q : α → Bool} {l : List α} (h : ∀ x ∈ l, p x = q x) : l.any p = l.any q := by
  induction l with
  | nil => rfl
  | cons x l ih => rw [List.any_cons, List.any_cons, h x (by simp), ih fun y hy => h y (by simp [hy])]
theorem refExists_eq {s : Sc} (h : ndOk s.v = true) (name : List UInt8) : refExists s name = existsN s name := by
  unfold refExists existsN
  rw [any_or]
  have h1 := refHost_some h name
  have h2 : ((cntL s).any fun x => !(refOff s x.n name).isEmpty) = (cntL s).any fun x => !(offL s.d x name).isEmpty := any_congr fun x hx => by rw [refOff_eq h hx]
  rw [h2]
  generalize (cntL s).any (fun x => hosts s.d x name) = A at *
  cases hs : sameN name s.d with
  | true => simp
  | false =>
    simp only [Bool.false_eq_true, false_or, Bool.false_or]
    cases A with
    | true => rw [if_pos (h1.2 rfl)]; simp
    | false => rw [if_neg (fun hh => by have := h1.1 hh; cases this)]; simp
theorem flatMap_congr' {α β : Type} {f g : α → List β} {l : List α} (h : ∀ x ∈ l, f x = g x) : l.flatMap f = l.flatMap g := by
  induction l with
  | nil => rfl
  | cons x l ih => rw [List.flatMap_cons, List.flatMap_cons, h x (by simp), ih fun y hy => h y (by simp [hy])]
theorem flatMap_nil' {α β : Type} {f : α → List β} {l : List α} (h : ∀ x ∈ l, f x = []) : l.flatMap f = [] := List.flatMap_eq_nil_iff.2 h
theorem tellA {s : Sc} (h : ndOk s.v = true) (name : List UInt8) (key : Int) : ((cntL s).flatMap fun x => if hosts s.d x name = true then (if (addrE x.s.a key).2 then [(addrE x.s.a key).1] else []) else []) =
    if 0 ≤ refHost s name ∧ (addrE (appsN s (refHost s name)) key).2 = true then [(addrE (appsN s (refHost s name)) key).1] else [] := by
  rw [flatMap_one (p := fun x => hosts s.d x name) _ ((cntL_pw h).imp fun hlt hh => by have := hosts_inj hh.1 hh.2; omega)]
  unfold refHost
  cases hf : (cntL s).find? (fun x => hosts s.d x name) with
  | none => simp
  | some x =>
    have h2 := List.mem_of_find?_eq_some hf
    have h3 := ndOk_mem h (cntL_mem h2).1
    dsimp only
    rw [appsN_mem h h2]
    cases (addrE x.s.a key).2 <;> simp [h3.1]
theorem refTellD_eq {s : Sc} (h : ndOk s.v = true) (name : List UInt8) (t : Int) : refTellD s name t = tellD s name t := by
  unfold refTellD tellD
  by_cases h1 : t = 1
  · subst h1
    rw [if_pos (.inl rfl), if_neg (show ¬ (((1 : Int) = 2 ∨ (1 : Int) = 6) ∧ sameN name s.d = true) by omega), List.append_nil, if_neg (show ¬ ((1 : Int) = 28) by omega), ← tellA h]
    refine flatMap_congr' fun x hx => ?_
    simp [tellX, keyN]
  by_cases h28 : t = 28
  · subst h28
    rw [if_pos (.inr rfl), if_neg (show ¬ (((28 : Int) = 2 ∨ (28 : Int) = 6) ∧ sameN name s.d = true) by omega), List.append_nil, if_pos rfl, ← tellA h]
    refine flatMap_congr' fun x hx => ?_
    simp [tellX, keyN]
  rw [if_neg (by omega)]
  have hk : keyN t = (0, false) := by rw [keyN, if_neg h1, if_neg h28]
  by_cases h2 : t = 2
  · subst h2
    rw [if_pos rfl, flatMap_nil' (fun x hx => by simp [tellX, hk])]
    simp only [apexN, if_true, true_or, true_and, List.nil_append]
    cases sameN name s.d <;> simp
  by_cases h6 : t = 6
  · subst h6
    rw [if_neg (by omega), if_pos rfl, flatMap_nil' (fun x hx => by simp [tellX, hk])]
    simp only [apexN, show ¬ ((6 : Int) = 2) by omega, if_false, or_true, true_and, List.nil_append]
    unfold startN
    cases sameN name s.d <;> cases startOk s.d <;> simp [toldN]
  rw [if_neg h2, if_neg h6, if_neg (show ¬ ((t = 2 ∨ t = 6) ∧ sameN name s.d = true) by omega), List.append_nil]
  by_cases h33 : t = 33
  · subst h33
    rw [if_pos rfl]
    refine flatMap_congr' fun x hx => ?_
    rw [refOff_eq h hx]
    simp [tellX, hk]
  · rw [if_neg h33]
    exact (flatMap_nil' (fun x hx => by simp [tellX, hk, h33])).symm

end Go.Proofs.YtnlmdeeadldgmaaGreatDoor.VL

/- Layer 16: labels joined, as the program and the reference do it. -/
-- STEPWISE
-- WK
set_option linter.unusedVariables false
set_option linter.unusedSimpArgs false
set_option maxRecDepth 10000
namespace Go.Proofs.YtnlmdeeadldgmaaGreatDoor.VL
open Go Go.RowKit Go.Lib

set_option maxHeartbeats 1000000 in
theorem ixStr_spec (l : List (List UInt8)) (s : List UInt8) (hl : l.length ≤ 9223372036854775807) (H : List Box) : ASpec Tryz.prog 146 [.lst 1 (strG l), vs s] H (Gives (vi (ixOf (fun x => decide (s = x)) l 0)) H) := by
  refine ASpec.enter Tryz.func146 rfl (fun a w => Tryz.call146 a w) Tryz.ntmps146 Tryz.results146 fun base w β hI => ?_
  refine wk wT (wA DrM.mk wT) ?_
  refine AWP.loop (ι := {i : Nat // i ≤ l.length ∧ ixOf (fun x => decide (s = x)) l 0 = ixOf (fun x => decide (s = x)) (l.drop i) i})
    (fun p => ⟨[(0, .lst 1 (strG l)), (1, vs s), (7, vi l.length), (8, vi p.1)], H⟩) (fun p => l.length - p.1) ⟨0, Nat.zero_le _, by rw [List.drop_zero]⟩ ?_ ?_
  · dsimp only
    exact Coe.kp
  · rintro ⟨i, hi, he⟩
    dsimp only
    by_cases hc : (i : Int) < (l.length : Int)
    · have hg : l[i]? = some l[i] := List.getElem?_eq_getElem (by omega)
      generalize l[i] = x at hg
      rw [ixOf_drop _ hg] at he
      by_cases hx : s = x
      · have he2 : ixOf (fun x => decide (s = x)) l 0 = (i : Int) := by rw [he]; simp [hx]
        rw [he2]
        subst hx
        refine wk (wA hc (wA hg wT)) (wA DrM.mk wT) ?_
        refine wkEnd wT ?_
        exact Fin.same ⟨rfl, rfl⟩
      · refine wk (wA hc (wA hg (wA hx wT))) (wA DrM.mk wT) ?_
        refine ⟨⟨i + 1, by omega, by rw [he]; simp [hx]⟩, ?_, by dsimp only; omega⟩
        dsimp only
        exact Coe.kp
    · rw [List.drop_of_length_le (by omega)] at he
      rw [he]
      refine wk (wA hc wT) (wA DrM.mk wT) ?_
      refine wkEnd wT ?_
      exact Fin.same ⟨rfl, rfl⟩
theorem hasStr_spec (l : List (List UInt8)) (s : List UInt8) (hl : l.length ≤ 9223372036854775807) (H : List Box) : ASpec Tryz.prog 128 [.lst 1 (strG l), vs s] H (Gives (vb (l.any (fun x => decide (s = x)))) H) := by
  have hs := fun H => ixStr_spec l s hl H
  have ha := ixOf_any (fun x => decide (s = x)) l 0
  generalize ixOf (fun x => decide (s = x)) l 0 = x at hs ha
  rw [← ha]
  refine ASpec.enter Tryz.func128 rfl (fun a w => Tryz.call128 a w) Tryz.ntmps128 Tryz.results128 fun base w β hI => ?_
  refine wk wT (wA hs (wA DrM.mk wT)) ?_
  refine wkEnd wT ?_
  exact Fin.same ⟨rfl, rfl⟩

theorem joinN_eq (l : List (List UInt8)) : joinN l = if l.any (fun x => decide ([] = x)) then ([], 3) else if l.any (fun s => decide (63 < s.length)) then ([], 4) else if 255 ≤ (joinB l).length then ([], 4) else (joinB l ++ [0], 0) := by
  have : l.any (fun x => decide ([] = x)) = l.any (fun s => decide (s = [])) := by congr 1; funext x; exact decide_eq_decide.2 ⟨Eq.symm, Eq.symm⟩
  rw [this, joinN]

theorem strApp (a b : List UInt8) : (⟨a.toArray⟩ : ByteArray) ++ ⟨b.toArray⟩ = ⟨(a ++ b).toArray⟩ := by
  apply ByteArray.ext
  simp

theorem any_split {α : Type} (f : α → Bool) {l : List α} {i : Nat} {x : α} (h : l[i]? = some x) (hx : f x = true) : l.any f = true :=
  List.any_eq_true.2 ⟨x, List.mem_of_getElem? h, hx⟩

set_option maxHeartbeats 4000000 in
theorem labJoin_spec (l : List (List UInt8)) (hl : l.length ≤ 1048576) (hs : lenS l ≤ 17179869184) (H : List Box) : ASpec Tryz.prog 92 [.lst 1 (strG l)] H (Gives (.tup [vs (joinN l).1, vi (joinN l).2]) H) := by
  have hh := fun H => hasStr_spec l [] (by omega) H
  rw [joinN_eq]
  cases ha : l.any (fun x => decide ([] = x)) with
  | true =>
    rw [ha] at hh
    refine ASpec.enter Tryz.func92 rfl (fun a w => Tryz.call92 a w) Tryz.ntmps92 Tryz.results92 fun base w β hI => ?_
    refine wk wT (wA hh (wA DrM.mk wT)) ?_
    refine wkEnd wT ?_
    exact Fin.same ⟨rfl, rfl⟩
  | false =>
    rw [ha] at hh
    rw [if_neg (by simp)]
    refine ASpec.enter Tryz.func92 rfl (fun a w => Tryz.call92 a w) Tryz.ntmps92 Tryz.results92 fun base w β hI => ?_
    refine wk wT (wA hh (wA DrM.mk wT)) ?_
    refine AWP.coe Coe.bld ?_
    refine AWP.loop (ι := {p : Nat × Nat // p.1 ≤ l.length ∧ (l.take p.1).any (fun s => decide (63 < s.length)) = false}) (fun p => ⟨[(4, .ptr H.length 0 0), (9, .lst 1 (strG l)), (10, vi l.length), (11, vi p.1.1)], bldH H p.1.2 (joinB (l.take p.1.1))⟩) (fun p => l.length - p.1.1) ⟨(0, 0), by simp, by simp⟩ ?_ ?_
    · dsimp only [List.take_zero, joinB, List.flatMap_nil]
      exact Coe.kp
    · rintro ⟨⟨i, g⟩, hi, hany⟩
      dsimp only at hi hany ⊢
      have hjl := joinB_length (l.take i)
      have hle := lenS_take_le l i
      rw [List.length_take] at hjl
      by_cases hc : (i : Int) < (l.length : Int)
      · have hg : l[i]? = some l[i] := List.getElem?_eq_getElem (by omega)
        generalize l[i] = x at hg
        by_cases hx : (63 : Int) < (x.length : Int)
        · rw [if_pos (any_split _ hg (by simp; omega))]
          refine wk (wA hc (wA hg (wA hx wT))) (wA DrM.mk wT) ?_
          refine wkEnd wT ?_
          exact Fin.cut ((Lt.v _).cons_tup ((Lt.v _).cons_tup .nil_tup)) ⟨rfl, rfl⟩
        · have hx63 : x.length ≤ 63 := by omega
          have e : (((UInt8.ofNat x.length).toNat : Nat) : Int) = (x.length : Int) := by rw [UInt8.toNat_ofNat']; omega
          have hw1 := writeByte_spec (UInt8.ofNat x.length) g (joinB (l.take i)) (by omega) H
          have hw2 := writeString_spec x (g + 1) (joinB (l.take i) ++ [UInt8.ofNat x.length]) (by simp only [List.length_append, List.length_singleton]; omega) (by omega) H
          rw [e] at hw1
          have hsn := take_snoc hg
          refine wk (wA hc (wA hg (wA hx wT))) (wA hw1 (wA hw2 (wA DrM.mk wT))) ?_
          refine ⟨⟨(i + 1, g + 1 + 1), by dsimp only; omega, by dsimp only; rw [hsn, List.any_append, hany]; simp; omega⟩, ?_, by dsimp only; omega⟩
          dsimp only
          rw [hsn, joinB_snoc]
          simp only [List.append_assoc, List.singleton_append]
          exact Coe.kp
      · rw [List.take_of_length_le (by omega)] at hany hjl ⊢
        rw [hany, if_neg (by simp)]
        have hln := bldLen_spec g (joinB l) (by omega) H
        by_cases h255 : (255 : Int) ≤ ((joinB l).length : Int)
        · rw [if_pos (by omega)]
          refine wk (wA hc (wA h255 wT)) (wA hln (wA DrM.mk wT)) ?_
          refine wkEnd wT ?_
          exact Fin.cut ((Lt.v _).cons_tup ((Lt.v _).cons_tup .nil_tup)) ⟨rfl, rfl⟩
        · rw [if_neg (by omega)]
          have hst := bldString_spec g (joinB l) (by omega) H
          refine wk (wA hc (wA h255 wT)) (wA hln (wA hst (wA DrM.mk wT))) ?_
          refine wkEnd wT ?_
          exact Fin.cut ((Lt.v _).cons_tup ((Lt.v _).cons_tup .nil_tup)) ⟨rfl, rfl⟩

set_option maxHeartbeats 4000000 in
theorem refJoin16_spec (l : List (List UInt8)) (hl : l.length ≤ 1048576) (hs : lenS l ≤ 17179869184) (H : List Box) : ASpec Tryz.prog 73 [.lst 1 (strG l)] H (Gives (.tup [vs (joinN l).1, vi (joinN l).2]) H) := by
  refine ASpec.enter Tryz.func73 rfl (fun a w => Tryz.call73 a w) Tryz.ntmps73 Tryz.results73 fun base w β hI => ?_
  refine wk wT (wA DrM.mk wT) ?_
  refine AWP.loop (ι := {i : Nat // i ≤ l.length ∧ (l.take i).any (fun s => decide (s = [])) = false}) (fun p => ⟨[(0, .lst 1 (strG l)), (4, vi p.1)], H⟩) (fun p => l.length - p.1) ⟨0, by simp, by simp⟩ ?_ ?_
  · dsimp only
    exact Coe.kp
  · rintro ⟨i, hi, hany⟩
    dsimp only at hi hany ⊢
    by_cases hc : (i : Int) < (l.length : Int)
    · have hg : l[i]? = some l[i] := List.getElem?_eq_getElem (by omega)
      generalize l[i] = x at hg
      by_cases hx : x = []
      · rw [joinN, if_pos (any_split _ hg (by simpa using hx))]
        refine wk (wA hc (wA hg (wA hx wT))) (wA DrM.mk wT) ?_
        refine wkEnd wT ?_
        exact Fin.same ⟨rfl, rfl⟩
      · have hsn := take_snoc hg
        refine wk (wA hc (wA hg (wA hx wT))) (wA DrM.mk wT) ?_
        refine ⟨⟨i + 1, by omega, by rw [hsn, List.any_append, hany]; simpa using hx⟩, ?_, by dsimp only; omega⟩
        dsimp only
        exact Coe.kp
    · rw [List.take_of_length_le (by omega)] at hany
      rw [joinN, hany, if_neg (by simp)]
      clear hany hi
      refine wk (wA hc wT) (wA DrM.mk wT) ?_
      refine AWP.loop (ι := {i : Nat // i ≤ l.length ∧ (l.take i).any (fun s => decide (63 < s.length)) = false ∧ (joinB (l.take i)).length ≤ 255 + 64}) (fun p => ⟨[(0, .lst 1 (strG l)), (5, vs (joinB (l.take p.1))), (6, vi p.1)], H⟩) (fun p => l.length - p.1) ⟨0, by simp, by simp, by simp [joinB]⟩ ?_ ?_
      · dsimp only
        have e0 : joinB (l.take 0) = [] := by simp [joinB]
        rw [e0]
        exact Coe.kp
      · clear hc i
        rintro ⟨i, hi, hany, hj⟩
        dsimp only at hi hany hj ⊢
        by_cases hc : (i : Int) < (l.length : Int)
        · have hg : l[i]? = some l[i] := List.getElem?_eq_getElem (by omega)
          generalize l[i] = x at hg
          by_cases hx : (63 : Int) < (x.length : Int)
          · rw [if_pos (any_split _ hg (by simp; omega))]
            refine wk (wA hc (wA hg (wA hx wT))) (wA DrM.mk wT) ?_
            refine wkEnd wT ?_
            exact Fin.same ⟨rfl, rfl⟩
          · by_cases hj2 : (255 : Int) < ((joinB (l.take i)).length : Int)
            · have hjt := joinB_take_le l i
              have hres : (if l.any (fun s => decide (63 < s.length)) = true then (([], 4) : List UInt8 × Int) else if 255 ≤ (joinB l).length then ([], 4) else (joinB l ++ [0], 0)) = ([], 4) := by
                split
                · rfl
                · rw [if_pos (by omega)]
              rw [hres]
              refine wk (wA hc (wA hg (wA hx (wA hj2 wT)))) (wA DrM.mk wT) ?_
              refine wkEnd wT ?_
              exact Fin.same ⟨rfl, rfl⟩
            · have hsn := take_snoc hg
              have hx63 : x.length ≤ 63 := by omega
              have hu : bytesOf [[AV.v (.int .u8 (x.length : Int))]] = some [UInt8.ofNat x.length] := by simp [bytesOf]
              repeat' (first
                | (refine AWP.seq ?_)
                | (refine AWP.block ?_)
                | (refine AWP.region_k fun Q' hQ' => ?_)
                | (refine AWP.draw_k rfl (by kernel_rfl) fun Q' hQ' => ?_)
                | (with_reducible refine aops.step fun T hT => ?_; simp (disch := omega) only [go_sem, Nat.reduceBEq, Nat.reduceLT, Nat.reduceEqDiff, reduceIte, Nat.reduceAdd, Nat.reduceMul, Nat.reduceSub, Nat.reduceLeDiff, Int.reduceToNat, Int.reducePow, Int.reduceLT, Int.reduceEq, Int.reduceBEq, Int.reduceNeg, Nat.reducePow, List.reduceReplicate, Int.reduceLE, hc, hg, hx, hj2, hu, strApp, List.append_assoc, List.singleton_append, List.length_append, List.length_singleton])
                | (with_reducible refine qops.step fun T hT => ?_; simp (disch := omega) only [go_sem, Nat.reduceBEq, Nat.reduceLT, Nat.reduceEqDiff, reduceIte, Nat.reduceAdd, Nat.reduceMul, Nat.reduceSub, Nat.reduceLeDiff, Int.reduceToNat, Int.reducePow, Int.reduceLT, Int.reduceEq, Int.reduceBEq, Int.reduceNeg, Nat.reducePow, List.reduceReplicate, Int.reduceLE, hc, hg, hx, hj2, hu, strApp, List.append_assoc, List.singleton_append, List.length_append, List.length_singleton])
                | (with_reducible refine aops.nil ?_)
                | (with_reducible refine qops.nil ?_)
                | (with_reducible refine hT _ ?_; clear hT T)
                | (refine AWP.skip ?_; try simp only [AExit.then, AExit.inBlock, reduceIte, Nat.reduceEqDiff])
                | (refine AWP.exit ?_; try simp only [AExit.then, AExit.inBlock, reduceIte, Nat.reduceEqDiff])
                | (refine AWP.ret ?_; try simp only [AExit.then, AExit.inBlock, reduceIte, Nat.reduceEqDiff])
                | (refine AWP.cond rfl (fun h => ?_) (fun h => ?_) <;> (try simp only [decide_eq_true_eq, decide_eq_false_iff_not, Bool.true_eq_false, Bool.false_eq_true] at h) <;> (try contradiction))
                | (refine hQ' _ _ ?_; clear hQ' Q'; try simp only [AExit.then, AExit.inBlock, reduceIte, Nat.reduceEqDiff])
                | (refine hQ' _ ?_; clear hQ' Q'; try simp only [AExit.then, AExit.inBlock, reduceIte, Nat.reduceEqDiff])
                | (with_reducible refine Branch.split (fun h => ?_) (fun h => ?_) <;> (try simp only [decide_eq_true_eq, decide_eq_false_iff_not, Bool.not_true, Bool.not_false, Bool.true_eq_false, Bool.false_eq_true] at h) <;> (try contradiction) <;> (simp (disch := omega) only [go_sem, Nat.reduceBEq, Nat.reduceLT, Nat.reduceEqDiff, reduceIte, Nat.reduceAdd, Nat.reduceMul, Nat.reduceSub, Nat.reduceLeDiff, Int.reduceToNat, Int.reducePow, Int.reduceLT, Int.reduceEq, Int.reduceBEq, Int.reduceNeg, Nat.reducePow, List.reduceReplicate, Int.reduceLE, h, hc, hg, hx, hj2, hu, strApp, List.append_assoc, List.singleton_append, List.length_append, List.length_singleton]))
                | (with_reducible intro h; try simp only [h, go_sem, Nat.reduceBEq, Nat.reduceLT, Nat.reduceEqDiff, reduceIte, Nat.reduceAdd, Nat.reduceMul, Nat.reduceSub, Nat.reduceLeDiff, Int.reduceToNat, Int.reducePow, Int.reduceLT, Int.reduceEq, Int.reduceBEq, Int.reduceNeg, Nat.reducePow, List.reduceReplicate, Int.reduceLE, hc, hg, hx, hj2, hu, strApp, List.append_assoc, List.singleton_append, List.length_append, List.length_singleton]))
              refine ⟨⟨i + 1, by omega, by rw [hsn, List.any_append, hany]; simp; omega, by rw [hsn, joinB_snoc]; simp only [List.length_append, List.length_cons]; omega⟩, ?_, by dsimp only; omega⟩
              dsimp only
              rw [hsn, joinB_snoc]
              exact Coe.kp
        · rw [List.take_of_length_le (by omega)] at hany hj ⊢
          rw [hany, if_neg (by simp)]
          by_cases h254 : (254 : Int) < ((joinB l).length : Int)
          · rw [if_pos (by omega)]
            refine wk (wA hc (wA h254 wT)) (wA DrM.mk wT) ?_
            refine wkEnd wT ?_
            exact Fin.same ⟨rfl, rfl⟩
          · rw [if_neg (by omega)]
            refine wk (wA hc (wA h254 wT)) (wA DrM.mk wT) ?_
            refine wkEnd wT ?_
            exact Fin.same ⟨rfl, rfl⟩

end Go.Proofs.YtnlmdeeadldgmaaGreatDoor.VL

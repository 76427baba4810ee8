/- Layer 16: names of the domain system, in plain lists of bytes: joining, texts, what is under what. -/
import Derived.Test.YtnlmdeeadldgmaaGreatDoorZG21
import Derived.Test.YtnlmdeeadldgmaaGreatDoorZVLWalk
import Derived.Test.YtnlmdeeadldgmaaGreatDoorZG20
set_option linter.unusedVariables false
set_option linter.unusedSimpArgs false
namespace Go.Proofs.YtnlmdeeadldgmaaGreatDoor.VL
open Go Go.RowKit Go.Lib

def joinB (l : List (List UInt8)) : List UInt8 := l.flatMap fun s => UInt8.ofNat s.length :: s
theorem joinB_snoc (l : List (List UInt8)) (s : List UInt8) : joinB (l ++ [s]) = joinB l ++ (UInt8.ofNat s.length :: s) := by simp [joinB]
theorem joinB_cons (l : List (List UInt8)) (s : List UInt8) : joinB (s :: l) = UInt8.ofNat s.length :: s ++ joinB l := by simp [joinB]
theorem joinB_length (l : List (List UInt8)) : (joinB l).length = lenS l + l.length := by
  induction l with
  | nil => rfl
  | cons s r ih => rw [joinB_cons, List.length_append, ih]; simp [lenS]; omega
def joinN (l : List (List UInt8)) : List UInt8 × Int :=
  if l.any (fun s => decide (s = [])) then ([], 3) else if l.any (fun s => decide (63 < s.length)) then ([], 4) else if 255 ≤ (joinB l).length then ([], 4) else (joinB l ++ [0], 0)
def ofN (t : List UInt8) : List UInt8 × Int := if t = [] ∨ t = [46] then ([0], 0) else joinN (splitC 46 (trimB t 46))
def dotW (l : List (List UInt8)) : List UInt8 := l.flatMap fun s => s ++ [46]
def textN (n : List UInt8) : List UInt8 × Int :=
  match lab n with
  | none => ([], 1)
  | some l => if l = [] then ([46], 0) else if l.any (fun s => decide (0 ≤ indexByte s 46)) then ([], 3) else (dotW l, 0)
def labelsN (n : List UInt8) : List (List UInt8) := match lab n with
  | some l => l
  | none => []
def underN (a b : List UInt8) : Bool :=
  match lab (lowB a), lab (lowB b) with
  | some l, some m => decide (m.length ≤ l.length) && decide (l.drop (l.length - m.length) = m)
  | _, _ => false

theorem dotW_join : ∀ (l : List (List UInt8)), l ≠ [] → dotW l = joinS [46] l ++ [46]
  | [], h => absurd rfl h
  | s :: r, _ => by
    rw [joinS_cons]
    induction r generalizing s with
    | nil => simp [dotW, joinW]
    | cons t r ih =>
      have := ih t (by simp)
      rw [show dotW (s :: t :: r) = s ++ [46] ++ dotW (t :: r) by simp [dotW], this]
      simp [joinW]

theorem dotW_length (l : List (List UInt8)) : (dotW l).length = lenS l + l.length := by
  induction l with
  | nil => rfl
  | cons s r ih => rw [show dotW (s :: r) = (s ++ [46]) ++ dotW r by simp [dotW], List.length_append, ih]; simp [lenS]; omega


/-! ### Parts, step by step -/
theorem splitC_ne (c : UInt8) : ∀ s, splitC c s ≠ []
  | [] => by simp [splitC]
  | b :: r => by
    rw [splitC]
    split
    · simp
    · split <;> simp
theorem splitC_dot (c : UInt8) : ∀ s, splitC c (s ++ [c]) = splitC c s ++ [[]]
  | [] => by simp [splitC]
  | b :: r => by
    rw [List.cons_append, splitC, splitC, splitC_dot c r]
    split
    · simp
    · cases h : splitC c r with
      | nil => exact absurd h (splitC_ne c r)
      | cons x t => simp
theorem splitC_more {c d : UInt8} (hd : ¬ d = c) : ∀ s, ∃ init last, splitC c s = init ++ [last] ∧ splitC c (s ++ [d]) = init ++ [last ++ [d]]
  | [] => ⟨[], [], by simp [splitC], by simp [splitC, hd]⟩
  | b :: r => by
    obtain ⟨i, l, h1, h2⟩ := splitC_more hd r
    rw [List.cons_append, splitC, splitC, h1, h2]
    by_cases hb : b = c
    · rw [if_pos hb, if_pos hb]
      exact ⟨[] :: i, l, by simp, by simp⟩
    · rw [if_neg hb, if_neg hb]
      cases i with
      | nil => exact ⟨[], b :: l, by simp, by simp⟩
      | cons x t => exact ⟨(b :: x) :: t, l, by simp, by simp⟩
theorem splitC_length (c : UInt8) : ∀ s, (splitC c s).length ≤ s.length + 1 ∧ lenS (splitC c s) ≤ s.length
  | [] => by simp [splitC, lenS]
  | b :: r => by
    obtain ⟨h1, h2⟩ := splitC_length c r
    rw [splitC]
    split
    · simp [lenS] at h2 ⊢; omega
    · cases h : splitC c r with
      | nil => exact absurd h (splitC_ne c r)
      | cons x t => rw [h] at h1 h2; simp [lenS] at h1 h2 ⊢; omega
theorem trimB_length (s : List UInt8) (c : UInt8) : (trimB s c).length ≤ s.length := by
  unfold trimB
  split
  · rw [List.length_take]; omega
  · exact Nat.le_refl _

/-! ### Names and their labels -/
def okL (l : List (List UInt8)) : Prop := ∀ s ∈ l, s ≠ [] ∧ s.length ≤ 63
theorem labS_joinB : ∀ (l : List (List UInt8)), okL l → labS (joinB l ++ [0]) = some l
  | [], _ => by rw [show joinB [] ++ [0] = (0 : UInt8) :: [] from rfl, labS_zero (by decide), if_pos rfl]
  | s :: r, h => by
    obtain ⟨h1, h2⟩ := h s (by simp)
    have hl : 0 < s.length := List.length_pos_iff.2 h1
    have e : (UInt8.ofNat s.length).toNat = s.length := by rw [UInt8.toNat_ofNat']; omega
    rw [joinB_cons, List.cons_append, List.cons_append, List.append_assoc, labS_more (by rw [e]; omega) (by rw [e, List.length_append]; omega), e, List.drop_left, List.take_left, labS_joinB r (fun x hx => h x (by simp [hx]))]
    rfl
theorem labF_some : ∀ (k : Nat) (n : List UInt8) (l : List (List UInt8)), labF k n = some l → n = joinB l ++ [0] ∧ okL l
  | 0, n, l, h => by simp [labF] at h
  | k + 1, [], l, h => by simp [labF] at h
  | k + 1, c :: r, l, h => by
    rw [labF] at h
    split at h
    · rename_i hc
      split at h
      · rename_i hr
        injection h with h
        subst h; subst hr
        have : c = 0 := by apply UInt8.toNat_inj.1; exact hc
        subst this
        exact ⟨rfl, fun s hs => by simp at hs⟩
      · cases h
    · rename_i hc
      split at h
      · cases h
      · rename_i hb
        obtain ⟨l', h1, rfl⟩ := Option.map_eq_some_iff.1 h
        obtain ⟨h2, h3⟩ := labF_some k _ _ h1
        have hl : (r.take c.toNat).length = c.toNat := by rw [List.length_take]; omega
        refine ⟨?_, fun s hs => ?_⟩
        · rw [joinB_cons, hl, List.append_assoc, ← h2, List.cons_append, List.take_append_drop]
          simp
        · rcases List.mem_cons.1 hs with rfl | hs
          · refine ⟨fun he => ?_, by omega⟩
            rw [he] at hl
            simp at hl
            omega
          · exact h3 s hs
theorem lab_some {n : List UInt8} {l : List (List UInt8)} (h : lab n = some l) : n = joinB l ++ [0] ∧ okL l ∧ (joinB l).length ≤ 254 := by
  unfold lab at h
  split at h
  · cases h
  · rename_i hn
    obtain ⟨h1, h2⟩ := labF_some _ _ _ h
    refine ⟨h1, h2, ?_⟩
    rw [h1, List.length_append, List.length_singleton] at hn
    omega
theorem lab_joinB {l : List (List UInt8)} (h : okL l) (hl : (joinB l).length ≤ 254) : lab (joinB l ++ [0]) = some l := by
  rw [lab_of (by rw [List.length_append, List.length_singleton]; omega)]
  exact labS_joinB l h
theorem joinN_ok {l : List (List UInt8)} (h : okL l) (hl : (joinB l).length ≤ 254) : joinN l = (joinB l ++ [0], 0) := by
  unfold joinN
  rw [if_neg, if_neg, if_neg (by omega)]
  · simp only [List.any_eq_true, decide_eq_true_eq, not_exists, not_and]
    intro s hs
    have := (h s hs).2
    omega
  · simp only [List.any_eq_true, decide_eq_true_eq, not_exists, not_and]
    exact fun s hs => (h s hs).1
theorem joinN_some {l : List (List UInt8)} {x : List UInt8} (h : joinN l = (x, 0)) : x = joinB l ++ [0] ∧ okL l ∧ (joinB l).length ≤ 254 ∧ lab x = some l := by
  unfold joinN at h
  split at h
  · simp at h
  · split at h
    · simp at h
    · split at h
      · simp at h
      · rename_i h1 h2 h3
        simp only [Prod.mk.injEq, and_true] at h
        have hok : okL l := fun s hs => by
          simp only [List.any_eq_true, decide_eq_true_eq, not_exists, not_and] at h1 h2
          exact ⟨h1 s hs, by have := h2 s hs; omega⟩
        exact ⟨h.symm, hok, by omega, by rw [← h]; exact lab_joinB hok (by omega)⟩
theorem joinN_err {l : List (List UInt8)} : (joinN l).2 = 0 ∨ (joinN l).1 = [] := by
  unfold joinN
  split
  · exact .inr rfl
  · split
    · exact .inr rfl
    · split
      · exact .inr rfl
      · exact .inl rfl
theorem okL_part {l : List (List UInt8)} (h : okL l) (n : Nat) : okL (l.drop n) := fun s hs => h s (List.mem_of_mem_drop hs)
theorem joinB_drop_le (l : List (List UInt8)) (n : Nat) : (joinB (l.drop n)).length ≤ (joinB l).length := by
  have : joinB l = joinB (l.take n) ++ joinB (l.drop n) := by
    conv => lhs; rw [← List.take_append_drop n l]
    simp only [joinB, List.flatMap_append]
  rw [this, List.length_append]
  omega
theorem joinB_take_le (l : List (List UInt8)) (n : Nat) : (joinB (l.take n)).length ≤ (joinB l).length := by
  have : joinB l = joinB (l.take n) ++ joinB (l.drop n) := by
    conv => lhs; rw [← List.take_append_drop n l]
    simp only [joinB, List.flatMap_append]
  rw [this, List.length_append]
  omega

/-! ### Small letters -/
def lowL (l : List (List UInt8)) : List (List UInt8) := l.map fun s => s.map lowU
theorem lowU_small {c : UInt8} (h : c.toNat ≤ 63) : lowU c = c := by rw [lowU, if_neg (by omega)]
theorem lowU_idem (c : UInt8) : lowU (lowU c) = lowU c := by
  unfold lowU
  split
  · rename_i h
    rw [if_neg]
    rw [UInt8.toNat_ofNat']
    omega
  · rfl
theorem low_joinB : ∀ (l : List (List UInt8)), okL l → (joinB l).map lowU = joinB (lowL l)
  | [], _ => rfl
  | s :: r, h => by
    have h2 := (h s (by simp)).2
    have e : (UInt8.ofNat s.length).toNat = s.length := by rw [UInt8.toNat_ofNat']; omega
    rw [joinB_cons, show lowL (s :: r) = s.map lowU :: lowL r from rfl, joinB_cons, List.map_append, List.map_cons, lowU_small (by omega), low_joinB r (fun x hx => h x (by simp [hx])), List.length_map]
theorem okL_low {l : List (List UInt8)} (h : okL l) : okL (lowL l) := fun s hs => by
  obtain ⟨t, ht, rfl⟩ := List.mem_map.1 hs
  obtain ⟨h1, h2⟩ := h t ht
  exact ⟨by simpa using h1, by simpa using h2⟩
theorem joinB_low_length (l : List (List UInt8)) (h : okL l) : (joinB (lowL l)).length = (joinB l).length := by rw [← low_joinB l h, List.length_map]
theorem lab_low {n : List UInt8} {l : List (List UInt8)} (h : lab n = some l) : lowB n = joinB (lowL l) ++ [0] ∧ lab (lowB n) = some (lowL l) := by
  obtain ⟨h1, h2, h3⟩ := lab_some h
  have e : lowB n = joinB (lowL l) ++ [0] := by
    unfold lowB
    rw [h, if_pos (show (some l).isSome = true from rfl), h1, List.map_append, low_joinB l h2]
    rfl
  rw [e]
  exact ⟨rfl, lab_joinB (okL_low h2) (by rw [joinB_low_length l h2]; exact h3)⟩
theorem lab_low_none {n : List UInt8} (h : lab n = none) : lowB n = n := by
  unfold lowB
  rw [h]
  rfl
theorem lowL_idem (l : List (List UInt8)) : lowL (lowL l) = lowL l := by
  unfold lowL
  rw [List.map_map]
  refine List.map_congr_left fun s _ => ?_
  simp only [Function.comp, List.map_map]
  exact List.map_congr_left fun c _ => lowU_idem c
theorem joinB_inj {l m : List (List UInt8)} (hl : okL l) (hm : okL m) (h : joinB l = joinB m) : l = m := by
  have h1 := labS_joinB l hl
  rw [h, labS_joinB m hm] at h1
  injection h1 with h1
  exact h1.symm
theorem sameN_iff {a b : List UInt8} {l m : List (List UInt8)} (ha : lab a = some l) (hb : lab b = some m) : sameN a b = decide (lowL l = lowL m) := by
  obtain ⟨_, h2, _⟩ := lab_some ha
  obtain ⟨_, h3, _⟩ := lab_some hb
  unfold sameN
  rw [ha, hb, (lab_low ha).1, (lab_low hb).1]
  simp only [Option.isSome_some, Bool.true_and]
  congr 1
  rw [List.append_cancel_right_eq]
  exact propext ⟨fun h => joinB_inj (okL_low h2) (okL_low h3) h, fun h => by rw [h]⟩
theorem underN_some {a b : List UInt8} {l m : List (List UInt8)} (ha : lab a = some l) (hb : lab b = some m) : underN a b = (decide (m.length ≤ l.length) && decide (lowL (l.drop (l.length - m.length)) = lowL m)) := by
  unfold underN
  rw [(lab_low ha).2, (lab_low hb).2]
  simp only [lowL, List.length_map, List.map_drop]
theorem underN_none {a b : List UInt8} (h : lab a = none ∨ lab b = none) : underN a b = false := by
  unfold underN
  rcases h with h | h
  · rw [lab_low_none h, h]
  · rw [lab_low_none h, h]
    cases lab (lowB a) <;> rfl
/-- As the reference has it. -/
theorem underN_ref {a b : List UInt8} {l m : List (List UInt8)} (ha : lab a = some l) (hb : lab b = some m) (hml : m.length ≤ l.length) : underN a b = sameN (joinN (l.drop (l.length - m.length))).1 b := by
  obtain ⟨h1, h2, h3⟩ := lab_some ha
  have hok := okL_part h2 (l.length - m.length)
  have hle := joinB_drop_le l (l.length - m.length)
  rw [joinN_ok hok (by omega)]
  dsimp only
  rw [sameN_iff (lab_joinB hok (by omega)) hb, underN_some ha hb]
  simp [hml]

end Go.Proofs.YtnlmdeeadldgmaaGreatDoor.VL

/- Layer 1: the functions that lay numbers and texts. -/
-- STEPWISE
set_option linter.unusedVariables false
set_option linter.unusedSimpArgs false
set_option maxRecDepth 10000
namespace Go.Proofs.YtnlmdeeadldgmaaGreatDoor.VL
open Go Go.RowKit Go.Lib

theorem blen_le (k : Nat) : ∀ n, n < 2 ^ k → blen n ≤ k := by
  induction k with
  | zero => intro n h; have : n = 0 := by simpa using h
            subst this; decide
  | succ k ih =>
    intro n h
    rcases Nat.eq_zero_or_pos n with h0 | h0
    · subst h0; simp [blen]
    · rw [blen_half h0]
      have := ih (n / 2) (by rw [Nat.pow_succ] at h; omega)
      omega

theorem nb_length9 (n : Nat) (h : n ≤ 4611686018427387904) : (nb n).length ≤ 9 :=
  nb_length_le 9 n (by have : (128 : Nat) ^ 9 = 9223372036854775808 := by decide
                       omega) (by omega)

theorem Fin.owned {E : Ent} {bs bs' : List UInt8} {g n : Nat} (h : bs = bs') (hn : n = bs.length := by simp) : Fin E (.sl E.H.length g 0 n 1 false) (E.H ++ [⟨bytesC bs, 0, g, true⟩]) (fun r H => Owns bs' E.H (.ret r) H) := by
  subst h; subst hn
  exact Fin.own (i := 0) (N := [⟨bytesC bs, 0, g, true⟩]) rfl rfl (bytesC_lt bs) ⟨rfl, rfl⟩

theorem refNum_spec (bs : List UInt8) (hl : bs.length ≤ 1099511627776) (n : Int) (H : List Box) : ASpec Tryz.prog 89 [vB bs, vi n] H (Owns (bs ++ numB n) H) := by
  cases hn : okNum n with
  | false =>
    intro base
    refine acall_body Tryz.func89 rfl (fun a w => Tryz.call89 a w) Tryz.ntmps89 Tryz.results89 (by simp) ?_
    intro w β hI
    simp only [number]
    repeat' (first
      | (refine AWP.seq ?_)
      | (refine AWP.block ?_)
      | (refine AWP.region_k fun Q' hQ' => ?_)
      | (refine AWP.draw_k rfl (by kernel_rfl) fun Q' hQ' => ?_)
      | (with_reducible refine aops.step fun T hT => ?_; simp (disch := omega) only [go_sem, Nat.reduceBEq, Nat.reduceLT, Nat.reduceEqDiff, reduceIte, Nat.reduceAdd, Nat.reduceMul, Nat.reduceSub, Nat.reduceLeDiff, Int.reduceToNat, Int.reducePow, Int.reduceLT, Int.reduceEq, Int.reduceBEq, Int.reduceNeg, Nat.reducePow, List.reduceReplicate, Int.reduceLE, hn])
      | (with_reducible refine qops.step fun T hT => ?_; simp (disch := omega) only [go_sem, Nat.reduceBEq, Nat.reduceLT, Nat.reduceEqDiff, reduceIte, Nat.reduceAdd, Nat.reduceMul, Nat.reduceSub, Nat.reduceLeDiff, Int.reduceToNat, Int.reducePow, Int.reduceLT, Int.reduceEq, Int.reduceBEq, Int.reduceNeg, Nat.reducePow, List.reduceReplicate, Int.reduceLE, hn])
      | (with_reducible refine aops.nil ?_)
      | (with_reducible refine qops.nil ?_)
      | (with_reducible refine hT _ ?_; clear hT T)
      | (refine AWP.skip ?_; try simp only [AExit.then, AExit.inBlock, reduceIte, Nat.reduceEqDiff])
      | (refine AWP.exit ?_; try simp only [AExit.then, AExit.inBlock, reduceIte, Nat.reduceEqDiff])
      | (refine AWP.ret ?_; try simp only [AExit.then, AExit.inBlock, reduceIte, Nat.reduceEqDiff])
      | (refine AWP.cond rfl (fun h => ?_) (fun h => ?_) <;> (try simp only [decide_eq_true_eq, decide_eq_false_iff_not, Bool.true_eq_false, Bool.false_eq_true] at h) <;> (try contradiction))
      | (refine hQ' _ _ ?_; clear hQ' Q'; try simp only [AExit.then, AExit.inBlock, reduceIte, Nat.reduceEqDiff])
      | (refine hQ' _ ?_; clear hQ' Q'; try simp only [AExit.then, AExit.inBlock, reduceIte, Nat.reduceEqDiff])
      | (with_reducible refine Branch.split (fun h => ?_) (fun h => ?_) <;> (try simp only [decide_eq_true_eq, decide_eq_false_iff_not, Bool.not_true, Bool.not_false, Bool.true_eq_false, Bool.false_eq_true] at h) <;> (try contradiction) <;> (simp (disch := omega) only [go_sem, Nat.reduceBEq, Nat.reduceLT, Nat.reduceEqDiff, reduceIte, Nat.reduceAdd, Nat.reduceMul, Nat.reduceSub, Nat.reduceLeDiff, Int.reduceToNat, Int.reducePow, Int.reduceLT, Int.reduceEq, Int.reduceBEq, Int.reduceNeg, Nat.reducePow, List.reduceReplicate, Int.reduceLE, h, hn]))
      | (with_reducible intro h; try simp only [h, go_sem, Nat.reduceBEq, Nat.reduceLT, Nat.reduceEqDiff, reduceIte, Nat.reduceAdd, Nat.reduceMul, Nat.reduceSub, Nat.reduceLeDiff, Int.reduceToNat, Int.reducePow, Int.reduceLT, Int.reduceEq, Int.reduceBEq, Int.reduceNeg, Nat.reducePow, List.reduceReplicate, Int.reduceLE, hn])
      | ((first | (with_reducible refine acall.det (may_spec n _) ?_) | (with_reducible refine qcall.det (may_spec n _) ?_)); try simp (disch := omega) only [go_sem, Nat.reduceBEq, Nat.reduceLT, Nat.reduceEqDiff, reduceIte, Nat.reduceAdd, Nat.reduceMul, Nat.reduceSub, Nat.reduceLeDiff, Int.reduceToNat, Int.reducePow, Int.reduceLT, Int.reduceEq, Int.reduceBEq, Int.reduceNeg, Nat.reducePow, List.reduceReplicate, Int.reduceLE, hn]))
    simp only [bodyQ, go_sem, Nat.reduceBEq, Nat.reduceLT, Nat.reduceEqDiff, reduceIte, Nat.reduceAdd, Nat.reduceMul, Nat.reduceSub, Nat.reduceLeDiff, Int.reduceToNat, Int.reducePow, Int.reduceLT, Int.reduceEq, Int.reduceBEq, Int.reduceNeg, Nat.reducePow, List.reduceReplicate, Int.reduceLE]
    exact Fin.owned (by simp [numB, hn])
  | true =>
    have hb : 0 ≤ n ∧ n ≤ 4611686018427387904 := by simpa [okNum] using hn
    have h9 := nb_length9 n.toNat (by omega)
    intro base
    refine acall_body Tryz.func89 rfl (fun a w => Tryz.call89 a w) Tryz.ntmps89 Tryz.results89 (by simp) ?_
    intro w β hI
    simp only [number]
    repeat' (first
      | (refine AWP.seq ?_)
      | (refine AWP.block ?_)
      | (refine AWP.region_k fun Q' hQ' => ?_)
      | (refine AWP.draw_k rfl (by kernel_rfl) fun Q' hQ' => ?_)
      | (with_reducible refine aops.step fun T hT => ?_; simp (disch := omega) only [go_sem, Nat.reduceBEq, Nat.reduceLT, Nat.reduceEqDiff, reduceIte, Nat.reduceAdd, Nat.reduceMul, Nat.reduceSub, Nat.reduceLeDiff, Int.reduceToNat, Int.reducePow, Int.reduceLT, Int.reduceEq, Int.reduceBEq, Int.reduceNeg, Nat.reducePow, List.reduceReplicate, Int.reduceLE, hn])
      | (with_reducible refine qops.step fun T hT => ?_; simp (disch := omega) only [go_sem, Nat.reduceBEq, Nat.reduceLT, Nat.reduceEqDiff, reduceIte, Nat.reduceAdd, Nat.reduceMul, Nat.reduceSub, Nat.reduceLeDiff, Int.reduceToNat, Int.reducePow, Int.reduceLT, Int.reduceEq, Int.reduceBEq, Int.reduceNeg, Nat.reducePow, List.reduceReplicate, Int.reduceLE, hn])
      | (with_reducible refine aops.nil ?_)
      | (with_reducible refine qops.nil ?_)
      | (with_reducible refine hT _ ?_; clear hT T)
      | (refine AWP.skip ?_; try simp only [AExit.then, AExit.inBlock, reduceIte, Nat.reduceEqDiff])
      | (refine AWP.exit ?_; try simp only [AExit.then, AExit.inBlock, reduceIte, Nat.reduceEqDiff])
      | (refine AWP.ret ?_; try simp only [AExit.then, AExit.inBlock, reduceIte, Nat.reduceEqDiff])
      | (refine AWP.cond rfl (fun h => ?_) (fun h => ?_) <;> (try simp only [decide_eq_true_eq, decide_eq_false_iff_not, Bool.true_eq_false, Bool.false_eq_true] at h) <;> (try contradiction))
      | (refine hQ' _ _ ?_; clear hQ' Q'; try simp only [AExit.then, AExit.inBlock, reduceIte, Nat.reduceEqDiff])
      | (refine hQ' _ ?_; clear hQ' Q'; try simp only [AExit.then, AExit.inBlock, reduceIte, Nat.reduceEqDiff])
      | (with_reducible refine Branch.split (fun h => ?_) (fun h => ?_) <;> (try simp only [decide_eq_true_eq, decide_eq_false_iff_not, Bool.not_true, Bool.not_false, Bool.true_eq_false, Bool.false_eq_true] at h) <;> (try contradiction) <;> (simp (disch := omega) only [go_sem, Nat.reduceBEq, Nat.reduceLT, Nat.reduceEqDiff, reduceIte, Nat.reduceAdd, Nat.reduceMul, Nat.reduceSub, Nat.reduceLeDiff, Int.reduceToNat, Int.reducePow, Int.reduceLT, Int.reduceEq, Int.reduceBEq, Int.reduceNeg, Nat.reducePow, List.reduceReplicate, Int.reduceLE, h, hn]))
      | (with_reducible intro h; try simp only [h, go_sem, Nat.reduceBEq, Nat.reduceLT, Nat.reduceEqDiff, reduceIte, Nat.reduceAdd, Nat.reduceMul, Nat.reduceSub, Nat.reduceLeDiff, Int.reduceToNat, Int.reducePow, Int.reduceLT, Int.reduceEq, Int.reduceBEq, Int.reduceNeg, Nat.reducePow, List.reduceReplicate, Int.reduceLE, hn])
      | ((first | (with_reducible refine acall.det (may_spec n _) ?_) | (with_reducible refine qcall.det (may_spec n _) ?_)); try simp (disch := omega) only [go_sem, Nat.reduceBEq, Nat.reduceLT, Nat.reduceEqDiff, reduceIte, Nat.reduceAdd, Nat.reduceMul, Nat.reduceSub, Nat.reduceLeDiff, Int.reduceToNat, Int.reducePow, Int.reduceLT, Int.reduceEq, Int.reduceBEq, Int.reduceNeg, Nat.reducePow, List.reduceReplicate, Int.reduceLE, hn]))
    refine AWP.loop (ι := {p : Nat × List UInt8 × Nat // p.2.1 ++ nb p.2.2 = bs ++ nb n.toNat ∧ p.2.2 ≤ 4611686018427387904}) (fun p => ⟨[(1, vi p.1.2.2), (5, .sl H.length p.1.1 0 p.1.2.1.length 1 false)], H ++ [⟨bytesC p.1.2.1, 0, p.1.1, true⟩]⟩) (fun p => p.1.2.2) ⟨(0, bs, n.toNat), rfl, by dsimp only; omega⟩ ?_ ?_
    · dsimp only
      rw [show ((n.toNat : Nat) : Int) = n by omega]
      refine Coe.keep ?_; simp (disch := omega) only [Keeps, List.mem_cons, List.not_mem_nil, or_false, forall_eq_or_imp, forall_eq, List.length_append, Int.natCast_add, Int.natCast_one, Int.add_sub_cancel, Int.reduceSub, Int.reduceAdd, go_sem, Nat.reduceBEq, Nat.reduceLT, Nat.reduceEqDiff, reduceIte, Nat.reduceAdd, Nat.reduceMul, Nat.reduceSub, Nat.reduceLeDiff, Int.reduceToNat, Int.reducePow, Int.reduceLT, Int.reduceEq, Int.reduceBEq, Int.reduceNeg, Nat.reducePow, List.reduceReplicate, Int.reduceLE]
    · rintro ⟨⟨g, acc, m⟩, hp, hm⟩
      dsimp only at hp hm ⊢
      have hpl : acc.length ≤ bs.length + 9 := by
        have := congrArg List.length hp
        simp only [List.length_append] at this
        omega
      by_cases h : (128 : Int) ≤ (m : Int)
      · repeat' (first
          | (refine AWP.seq ?_)
          | (refine AWP.block ?_)
          | (refine AWP.region_k fun Q' hQ' => ?_)
          | (refine AWP.draw_k rfl (by kernel_rfl) fun Q' hQ' => ?_)
          | (with_reducible refine aops.step fun T hT => ?_; simp (disch := omega) only [go_sem, Nat.reduceBEq, Nat.reduceLT, Nat.reduceEqDiff, reduceIte, Nat.reduceAdd, Nat.reduceMul, Nat.reduceSub, Nat.reduceLeDiff, Int.reduceToNat, Int.reducePow, Int.reduceLT, Int.reduceEq, Int.reduceBEq, Int.reduceNeg, Nat.reducePow, List.reduceReplicate, Int.reduceLE, h])
          | (with_reducible refine qops.step fun T hT => ?_; simp (disch := omega) only [go_sem, Nat.reduceBEq, Nat.reduceLT, Nat.reduceEqDiff, reduceIte, Nat.reduceAdd, Nat.reduceMul, Nat.reduceSub, Nat.reduceLeDiff, Int.reduceToNat, Int.reducePow, Int.reduceLT, Int.reduceEq, Int.reduceBEq, Int.reduceNeg, Nat.reducePow, List.reduceReplicate, Int.reduceLE, h])
          | (with_reducible refine aops.nil ?_)
          | (with_reducible refine qops.nil ?_)
          | (with_reducible refine hT _ ?_; clear hT T)
          | (refine AWP.skip ?_; try simp only [AExit.then, AExit.inBlock, reduceIte, Nat.reduceEqDiff])
          | (refine AWP.exit ?_; try simp only [AExit.then, AExit.inBlock, reduceIte, Nat.reduceEqDiff])
          | (refine AWP.ret ?_; try simp only [AExit.then, AExit.inBlock, reduceIte, Nat.reduceEqDiff])
          | (refine AWP.cond rfl (fun h => ?_) (fun h => ?_) <;> (try simp only [decide_eq_true_eq, decide_eq_false_iff_not, Bool.true_eq_false, Bool.false_eq_true] at h) <;> (try contradiction))
          | (refine hQ' _ _ ?_; clear hQ' Q'; try simp only [AExit.then, AExit.inBlock, reduceIte, Nat.reduceEqDiff])
          | (refine hQ' _ ?_; clear hQ' Q'; try simp only [AExit.then, AExit.inBlock, reduceIte, Nat.reduceEqDiff])
          | (with_reducible refine Branch.split (fun h => ?_) (fun h => ?_) <;> (try simp only [decide_eq_true_eq, decide_eq_false_iff_not, Bool.not_true, Bool.not_false, Bool.true_eq_false, Bool.false_eq_true] at h) <;> (try contradiction) <;> (simp (disch := omega) only [go_sem, Nat.reduceBEq, Nat.reduceLT, Nat.reduceEqDiff, reduceIte, Nat.reduceAdd, Nat.reduceMul, Nat.reduceSub, Nat.reduceLeDiff, Int.reduceToNat, Int.reducePow, Int.reduceLT, Int.reduceEq, Int.reduceBEq, Int.reduceNeg, Nat.reducePow, List.reduceReplicate, Int.reduceLE, h, h]))
          | (with_reducible intro h; try simp only [h, go_sem, Nat.reduceBEq, Nat.reduceLT, Nat.reduceEqDiff, reduceIte, Nat.reduceAdd, Nat.reduceMul, Nat.reduceSub, Nat.reduceLeDiff, Int.reduceToNat, Int.reducePow, Int.reduceLT, Int.reduceEq, Int.reduceBEq, Int.reduceNeg, Nat.reducePow, List.reduceReplicate, Int.reduceLE, h]))
        rw [show ((m : Int) % 128 + 128).toNat = m % 128 + 128 by omega]
        refine ⟨⟨(g + 1, acc ++ [UInt8.ofNat (m % 128 + 128)], m / 128), ?_, ?_⟩, ?_, ?_⟩
        · dsimp only
          rw [← hp, nb_big (show 128 ≤ m by omega)]
          simp
        · dsimp only; omega
        · dsimp only
          refine Coe.keep ?_; simp (disch := omega) only [Keeps, List.mem_cons, List.not_mem_nil, or_false, forall_eq_or_imp, forall_eq, List.length_append, Int.natCast_add, Int.natCast_one, Int.add_sub_cancel, Int.reduceSub, Int.reduceAdd, go_sem, Nat.reduceBEq, Nat.reduceLT, Nat.reduceEqDiff, reduceIte, Nat.reduceAdd, Nat.reduceMul, Nat.reduceSub, Nat.reduceLeDiff, Int.reduceToNat, Int.reducePow, Int.reduceLT, Int.reduceEq, Int.reduceBEq, Int.reduceNeg, Nat.reducePow, List.reduceReplicate, Int.reduceLE]
          try simp
        · dsimp only; omega
      · repeat' (first
          | (refine AWP.seq ?_)
          | (refine AWP.block ?_)
          | (refine AWP.region_k fun Q' hQ' => ?_)
          | (refine AWP.draw_k rfl (by kernel_rfl) fun Q' hQ' => ?_)
          | (with_reducible refine aops.step fun T hT => ?_; simp (disch := omega) only [go_sem, Nat.reduceBEq, Nat.reduceLT, Nat.reduceEqDiff, reduceIte, Nat.reduceAdd, Nat.reduceMul, Nat.reduceSub, Nat.reduceLeDiff, Int.reduceToNat, Int.reducePow, Int.reduceLT, Int.reduceEq, Int.reduceBEq, Int.reduceNeg, Nat.reducePow, List.reduceReplicate, Int.reduceLE, h])
          | (with_reducible refine qops.step fun T hT => ?_; simp (disch := omega) only [go_sem, Nat.reduceBEq, Nat.reduceLT, Nat.reduceEqDiff, reduceIte, Nat.reduceAdd, Nat.reduceMul, Nat.reduceSub, Nat.reduceLeDiff, Int.reduceToNat, Int.reducePow, Int.reduceLT, Int.reduceEq, Int.reduceBEq, Int.reduceNeg, Nat.reducePow, List.reduceReplicate, Int.reduceLE, h])
          | (with_reducible refine aops.nil ?_)
          | (with_reducible refine qops.nil ?_)
          | (with_reducible refine hT _ ?_; clear hT T)
          | (refine AWP.skip ?_; try simp only [AExit.then, AExit.inBlock, reduceIte, Nat.reduceEqDiff])
          | (refine AWP.exit ?_; try simp only [AExit.then, AExit.inBlock, reduceIte, Nat.reduceEqDiff])
          | (refine AWP.ret ?_; try simp only [AExit.then, AExit.inBlock, reduceIte, Nat.reduceEqDiff])
          | (refine AWP.cond rfl (fun h => ?_) (fun h => ?_) <;> (try simp only [decide_eq_true_eq, decide_eq_false_iff_not, Bool.true_eq_false, Bool.false_eq_true] at h) <;> (try contradiction))
          | (refine hQ' _ _ ?_; clear hQ' Q'; try simp only [AExit.then, AExit.inBlock, reduceIte, Nat.reduceEqDiff])
          | (refine hQ' _ ?_; clear hQ' Q'; try simp only [AExit.then, AExit.inBlock, reduceIte, Nat.reduceEqDiff])
          | (with_reducible refine Branch.split (fun h => ?_) (fun h => ?_) <;> (try simp only [decide_eq_true_eq, decide_eq_false_iff_not, Bool.not_true, Bool.not_false, Bool.true_eq_false, Bool.false_eq_true] at h) <;> (try contradiction) <;> (simp (disch := omega) only [go_sem, Nat.reduceBEq, Nat.reduceLT, Nat.reduceEqDiff, reduceIte, Nat.reduceAdd, Nat.reduceMul, Nat.reduceSub, Nat.reduceLeDiff, Int.reduceToNat, Int.reducePow, Int.reduceLT, Int.reduceEq, Int.reduceBEq, Int.reduceNeg, Nat.reducePow, List.reduceReplicate, Int.reduceLE, h, h]))
          | (with_reducible intro h; try simp only [h, go_sem, Nat.reduceBEq, Nat.reduceLT, Nat.reduceEqDiff, reduceIte, Nat.reduceAdd, Nat.reduceMul, Nat.reduceSub, Nat.reduceLeDiff, Int.reduceToNat, Int.reducePow, Int.reduceLT, Int.reduceEq, Int.reduceBEq, Int.reduceNeg, Nat.reducePow, List.reduceReplicate, Int.reduceLE, h]))
        simp only [bodyQ, go_sem, Nat.reduceBEq, Nat.reduceLT, Nat.reduceEqDiff, reduceIte, Nat.reduceAdd, Nat.reduceMul, Nat.reduceSub, Nat.reduceLeDiff, Int.reduceToNat, Int.reducePow, Int.reduceLT, Int.reduceEq, Int.reduceBEq, Int.reduceNeg, Nat.reducePow, List.reduceReplicate, Int.reduceLE]
        refine Fin.owned ?_
        rw [numB, hn, if_pos rfl, ← hp, nb_small (show m < 128 by omega)]

abbrev intsG (l : List Int) : List (List AV) := l.map fun n => [vi n]
abbrev vI (l : List Int) : AV := .lst 1 (intsG l)
@[go_sem] theorem intsG_length (l : List Int) : (intsG l).length = l.length := by simp [intsG]
@[go_sem] theorem intsG_get (l : List Int) (i : Nat) : (intsG l)[i]? = (l[i]?).map fun n => [vi n] := by simp [intsG]

theorem andNot_byte (m : Int) (h : 0 ≤ m) : iandNot .u8 (IntKind.u8.wrap m) 128 = m % 128 := by
  have hw : IntKind.u8.wrap m = m % 256 := by simp [IntKind.wrap, IntKind.bits, IntKind.signed]
  have h1 : (BitVec.ofInt 8 (m % 256)).toNat = (m % 256).toNat := ofInt_toNat (by omega) (by omega)
  have key : ∀ k : _root_.Fin 256, (BitVec.ofNat 8 k.val &&& ~~~ BitVec.ofInt 8 128).toNat = k.val % 128 := by decide
  have h2 : BitVec.ofInt 8 (m % 256) = BitVec.ofNat 8 (m % 256).toNat := by
    apply BitVec.eq_of_toNat_eq
    rw [h1, BitVec.toNat_ofNat]
    omega
  have h3 : (BitVec.ofNat 8 (m % 256).toNat &&& ~~~ BitVec.ofInt 8 128).toNat = (m % 256).toNat % 128 := key ⟨(m % 256).toNat, by omega⟩
  show IntKind.u8.wrap ((BitVec.ofInt 8 (IntKind.u8.wrap m) &&& ~~~ BitVec.ofInt 8 128).toNat : Int) = _
  rw [hw, h2, h3, wu8 (by omega) (by omega)]
  omega
theorem or_byte (m : Int) (h : 0 ≤ m) (h' : m < 128) : ior .u8 m 128 = m + 128 := by
  rw [ior_u8 h (by omega) (by omega) (by omega)]
  have key : ∀ k : _root_.Fin 128, k.val ||| 128 = k.val + 128 := by decide
  have : m.toNat ||| 128 = m.toNat + 128 := key ⟨m.toNat, by omega⟩
  show ((m.toNat ||| 128 : Nat) : Int) = _
  rw [this]
  omega

theorem numB_ok {n : Int} (h : okNum n = true) : numB n = nb n.toNat := by simp [numB, h]
theorem numsB_length (l : List Int) : (numsB l).length ≤ 9 * l.length := by
  induction l with
  | nil => simp [numsB]
  | cons n l ih =>
    have := numB_length_le n
    simp only [numsB, List.flatMap_cons, List.length_append, List.length_cons] at ih ⊢
    omega
theorem numsB_take {l : List Int} {k : Nat} {n : Int} (h : l[k]? = some n) : numsB (l.take (k + 1)) = numsB (l.take k) ++ numB n := by
  obtain ⟨hk, rfl⟩ := List.getElem?_eq_some_iff.1 h
  rw [List.take_succ_eq_append_getElem hk]
  simp only [numsB, List.flatMap_append, List.flatMap_cons, List.flatMap_nil, List.append_nil]

end Go.Proofs.YtnlmdeeadldgmaaGreatDoor.VL

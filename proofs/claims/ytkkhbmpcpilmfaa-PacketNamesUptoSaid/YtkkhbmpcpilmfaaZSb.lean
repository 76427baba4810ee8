/- Library: a string's parts between bytes. -/
import Derived.Test.YtkkhbmpcpilmfaaZSa
import Derived.Lib.MakeNoZero
import Derived.Laws.IdiomCopy
import Derived.Shelf.RegionOpenPlain
-- STEPWISE
set_option linter.unusedVariables false
set_option linter.unusedSimpArgs false
set_option maxRecDepth 100000
namespace Go.Proofs.Ytkkhbmpcpilmfaa.VL
open Go Go.RowKit Go.Lib

@[go_sem] theorem flat_strs0 (n : Nat) : flat (List.replicate n [AV.v (.string ⟨#[]⟩)]) = strC (List.replicate n []) := by
  unfold flat strC
  induction n with
  | zero => rfl
  | succ n ih => rw [List.replicate_succ, List.replicate_succ, List.flatten_cons, ih]; rfl
@[go_sem] theorem strC_set (l : List (List UInt8)) (i : Nat) (s : List UInt8) : (strC l).set i (.v (.string ⟨s.toArray⟩)) = strC (l.set i s) := by
  unfold strC
  rw [List.map_set]

theorem fin_strs1 {E : Ent} {N : List Box} {k g n ro : Nat} {L : List (List UInt8)} {full gr : Bool} {K : AV → List Box → Prop} (hb : N[k]? = some ⟨strC L, ro, g, gr⟩) (hn : n = L.length)
    (h : K (.lst 1 (strG L)) E.H) : Fin E (.sl (E.H.length + k) g 0 n 1 full) (E.H ++ N) K :=
  Fin.frozG (bx := ⟨strC L, ro, g, gr⟩) (by rw [getH]; exact hb) (by omega) rfl (by dsimp only; rw [strC_length]; omega) (chunk_strC L n hn)
    (fun w H β v hsw hr => hsw v hr) (lt_str L) h

end Go.Proofs.Ytkkhbmpcpilmfaa.VL

/- Library: strings put together, with a text between each two. -/
-- STEPWISE
set_option linter.unusedVariables false
set_option linter.unusedSimpArgs false
set_option maxRecDepth 1000000
namespace Go.Proofs.Ytkkhbmpcpilmfaa.VL
open Go Go.RowKit Go.Lib

/-- Strings with a text between each two. -/
def joinS (sep : List UInt8) : List (List UInt8) → List UInt8
  | [] => []
  | [s] => s
  | s :: r => s ++ sep ++ joinS sep r
def joinW (sep : List UInt8) (r : List (List UInt8)) : List UInt8 := r.flatMap fun s => sep ++ s
theorem joinS_cons (sep s : List UInt8) (r : List (List UInt8)) : joinS sep (s :: r) = s ++ joinW sep r := by
  induction r generalizing s with
  | nil => simp [joinS, joinW]
  | cons t r ih =>
    rw [show joinS sep (s :: t :: r) = s ++ sep ++ joinS sep (t :: r) from rfl, ih t]
    simp [joinW]
theorem joinW_snoc (sep s : List UInt8) (r : List (List UInt8)) : joinW sep (r ++ [s]) = joinW sep r ++ (sep ++ s) := by simp [joinW]
def lenS (l : List (List UInt8)) : Nat := (l.map List.length).sum
theorem lenS_snoc (l : List (List UInt8)) (s : List UInt8) : lenS (l ++ [s]) = lenS l + s.length := by simp [lenS]
theorem lenS_take_le (l : List (List UInt8)) (i : Nat) : lenS (l.take i) ≤ lenS l := by
  have : lenS l = lenS (l.take i) + lenS (l.drop i) := by
    conv => lhs; rw [← List.take_append_drop i l]
    simp only [lenS, List.map_append, List.sum_append]
  omega
theorem take_snoc {α : Type} {l : List α} {i : Nat} {x : α} (h : l[i]? = some x) : l.take (i + 1) = l.take i ++ [x] := by
  obtain ⟨hi, he⟩ := List.getElem?_eq_some_iff.1 h
  rw [List.take_succ_eq_append_getElem hi, he]

end Go.Proofs.Ytkkhbmpcpilmfaa.VL

/- Library: strings put together, as the library does. -/
-- STEPWISE
set_option linter.unusedVariables false
set_option linter.unusedSimpArgs false
set_option maxRecDepth 100000
namespace Go.Proofs.Ytkkhbmpcpilmfaa.VL
open Go Go.RowKit Go.Lib

theorem joinW_length (c : UInt8) (l : List (List UInt8)) : (joinW [c] l).length = lenS l + l.length := by
  induction l with
  | nil => rfl
  | cons s r ih =>
    rw [show joinW [c] (s :: r) = ([c] ++ s) ++ joinW [c] r from rfl, List.length_append, ih]
    simp [lenS]
    omega

end Go.Proofs.Ytkkhbmpcpilmfaa.VL

/- Layer 16: names of the domain system, in plain lists of bytes: joining, texts, what is under what. -/
set_option linter.unusedVariables false
set_option linter.unusedSimpArgs false
namespace Go.Proofs.Ytkkhbmpcpilmfaa.VL
open Go Go.RowKit Go.Lib

def joinB (l : List (List UInt8)) : List UInt8 := l.flatMap fun s => UInt8.ofNat s.length :: s
theorem joinB_snoc (l : List (List UInt8)) (s : List UInt8) : joinB (l ++ [s]) = joinB l ++ (UInt8.ofNat s.length :: s) := by simp [joinB]
theorem joinB_cons (l : List (List UInt8)) (s : List UInt8) : joinB (s :: l) = UInt8.ofNat s.length :: s ++ joinB l := by simp [joinB]
theorem joinB_length (l : List (List UInt8)) : (joinB l).length = lenS l + l.length := by
  induction l with
  | nil => rfl
  | cons s r ih => rw [joinB_cons, List.length_append, ih]; simp [lenS]; omega
def joinN (l : List (List UInt8)) : List UInt8 × Int :=
  if l.any (fun s => decide (s = [])) then ([], 3) else if l.any (fun s => decide (63 < s.length)) then ([], 4) else if 255 ≤ (joinB l).length then ([], 4) else (joinB l ++ [0], 0)
def ofN (t : List UInt8) : List UInt8 × Int := if t = [] ∨ t = [46] then ([0], 0) else joinN (splitC 46 (trimB t 46))
def dotW (l : List (List UInt8)) : List UInt8 := l.flatMap fun s => s ++ [46]
def textN (n : List UInt8) : List UInt8 × Int :=
  match lab n with
  | none => ([], 1)
  | some l => if l = [] then ([46], 0) else if l.any (fun s => decide (0 ≤ indexByte s 46)) then ([], 3) else (dotW l, 0)
def labelsN (n : List UInt8) : List (List UInt8) := match lab n with
  | some l => l
  | none => []
def underN (a b : List UInt8) : Bool :=
  match lab (lowB a), lab (lowB b) with
  | some l, some m => decide (m.length ≤ l.length) && decide (l.drop (l.length - m.length) = m)
  | _, _ => false

theorem dotW_join : ∀ (l : List (List UInt8)), l ≠ [] → dotW l = joinS [46] l ++ [46]
  | [], h => absurd rfl h
  | s :: r, _ => by
    rw [joinS_cons]
    induction r generalizing s with
    | nil => simp [dotW, joinW]
    | cons t r ih =>
      have := ih t (by simp)
      rw [show dotW (s :: t :: r) = s ++ [46] ++ dotW (t :: r) by simp [dotW], this]
      simp [joinW]

theorem dotW_length (l : List (List UInt8)) : (dotW l).length = lenS l + l.length := by
  induction l with
  | nil => rfl
  | cons s r ih => rw [show dotW (s :: r) = (s ++ [46]) ++ dotW r by simp [dotW], List.length_append, ih]; simp [lenS]; omega


/-! ### Parts, step by step -/
theorem splitC_ne (c : UInt8) : ∀ s, splitC c s ≠ []
  | [] => by simp [splitC]
  | b :: r => by
    rw [splitC]
    split
    · simp
    · split <;> simp
theorem splitC_dot (c : UInt8) : ∀ s, splitC c (s ++ [c]) = splitC c s ++ [[]]
  | [] => by simp [splitC]
  | b :: r => by
    rw [List.cons_append, splitC, splitC, splitC_dot c r]
    split
    · simp
    · cases h : splitC c r with
      | nil => exact absurd h (splitC_ne c r)
      | cons x t => simp
theorem splitC_more {c d : UInt8} (hd : ¬ d = c) : ∀ s, ∃ init last, splitC c s = init ++ [last] ∧ splitC c (s ++ [d]) = init ++ [last ++ [d]]
  | [] => ⟨[], [], by simp [splitC], by simp [splitC, hd]⟩
  | b :: r => by
    obtain ⟨i, l, h1, h2⟩ := splitC_more hd r
    rw [List.cons_append, splitC, splitC, h1, h2]
    by_cases hb : b = c
    · rw [if_pos hb, if_pos hb]
      exact ⟨[] :: i, l, by simp, by simp⟩
    · rw [if_neg hb, if_neg hb]
      cases i with
      | nil => exact ⟨[], b :: l, by simp, by simp⟩
      | cons x t => exact ⟨(b :: x) :: t, l, by simp, by simp⟩
theorem splitC_length (c : UInt8) : ∀ s, (splitC c s).length ≤ s.length + 1 ∧ lenS (splitC c s) ≤ s.length
  | [] => by simp [splitC, lenS]
  | b :: r => by
    obtain ⟨h1, h2⟩ := splitC_length c r
    rw [splitC]
    split
    · simp [lenS] at h2 ⊢; omega
    · cases h : splitC c r with
      | nil => exact absurd h (splitC_ne c r)
      | cons x t => rw [h] at h1 h2; simp [lenS] at h1 h2 ⊢; omega
theorem trimB_length (s : List UInt8) (c : UInt8) : (trimB s c).length ≤ s.length := by
  unfold trimB
  split
  · rw [List.length_take]; omega
  · exact Nat.le_refl _

/-! ### Names and their labels -/
def okL (l : List (List UInt8)) : Prop := ∀ s ∈ l, s ≠ [] ∧ s.length ≤ 63
theorem labS_joinB : ∀ (l : List (List UInt8)), okL l → labS (joinB l ++ [0]) = some l
  | [], _ => by rw [show joinB [] ++ [0] = (0 : UInt8) :: [] from rfl, labS_zero (by decide), if_pos rfl]
  | s :: r, h => by
    obtain ⟨h1, h2⟩ := h s (by simp)
    have hl : 0 < s.length := List.length_pos_iff.2 h1
    have e : (UInt8.ofNat s.length).toNat = s.length := by rw [UInt8.toNat_ofNat']; omega
    rw [joinB_cons, List.cons_append, List.cons_append, List.append_assoc, labS_more (by rw [e]; omega) (by rw [e, List.length_append]; omega), e, List.drop_left, List.take_left, labS_joinB r (fun x hx => h x (by simp [hx]))]
    rfl
theorem labF_some : ∀ (k : Nat) (n : List UInt8) (l : List (List UInt8)), labF k n = some l → n = joinB l ++ [0] ∧ okL l
  | 0, n, l, h => by simp [labF] at h
  | k + 1, [], l, h => by simp [labF] at h
  | k + 1, c :: r, l, h => by
    rw [labF] at h
    split at h
    · rename_i hc
      split at h
      · rename_i hr
        injection h with h
        subst h; subst hr
        have : c = 0 := by apply UInt8.toNat_inj.1; exact hc
        subst this
        exact ⟨rfl, fun s hs => by simp at hs⟩
      · cases h
    · rename_i hc
      split at h
      · cases h
      · rename_i hb
        obtain ⟨l', h1, rfl⟩ := Option.map_eq_some_iff.1 h
        obtain ⟨h2, h3⟩ := labF_some k _ _ h1
        have hl : (r.take c.toNat).length = c.toNat := by rw [List.length_take]; omega
        refine ⟨?_, fun s hs => ?_⟩
        · rw [joinB_cons, hl, List.append_assoc, ← h2, List.cons_append, List.take_append_drop]
          simp
        · rcases List.mem_cons.1 hs with rfl | hs
          · refine ⟨fun he => ?_, by omega⟩
            rw [he] at hl
            simp at hl
            omega
          · exact h3 s hs
theorem lab_some {n : List UInt8} {l : List (List UInt8)} (h : lab n = some l) : n = joinB l ++ [0] ∧ okL l ∧ (joinB l).length ≤ 254 := by
  unfold lab at h
  split at h
  · cases h
  · rename_i hn
    obtain ⟨h1, h2⟩ := labF_some _ _ _ h
    refine ⟨h1, h2, ?_⟩
    rw [h1, List.length_append, List.length_singleton] at hn
    omega
theorem lab_joinB {l : List (List UInt8)} (h : okL l) (hl : (joinB l).length ≤ 254) : lab (joinB l ++ [0]) = some l := by
  rw [lab_of (by rw [List.length_append, List.length_singleton]; omega)]
  exact labS_joinB l h
theorem joinN_ok {l : List (List UInt8)} (h : okL l) (hl : (joinB l).length ≤ 254) : joinN l = (joinB l ++ [0], 0) := by
  unfold joinN
  rw [if_neg, if_neg, if_neg (by omega)]
  · simp only [List.any_eq_true, decide_eq_true_eq, not_exists, not_and]
    intro s hs
    have := (h s hs).2
    omega
  · simp only [List.any_eq_true, decide_eq_true_eq, not_exists, not_and]
    exact fun s hs => (h s hs).1
theorem joinN_some {l : List (List UInt8)} {x : List UInt8} (h : joinN l = (x, 0)) : x = joinB l ++ [0] ∧ okL l ∧ (joinB l).length ≤ 254 ∧ lab x = some l := by
  unfold joinN at h
  split at h
  · simp at h
  · split at h
    · simp at h
    · split at h
      · simp at h
      · rename_i h1 h2 h3
        simp only [Prod.mk.injEq, and_true] at h
        have hok : okL l := fun s hs => by
          simp only [List.any_eq_true, decide_eq_true_eq, not_exists, not_and] at h1 h2
          exact ⟨h1 s hs, by have := h2 s hs; omega⟩
        exact ⟨h.symm, hok, by omega, by rw [← h]; exact lab_joinB hok (by omega)⟩
theorem joinN_err {l : List (List UInt8)} : (joinN l).2 = 0 ∨ (joinN l).1 = [] := by
  unfold joinN
  split
  · exact .inr rfl
  · split
    · exact .inr rfl
    · split
      · exact .inr rfl
      · exact .inl rfl
theorem okL_part {l : List (List UInt8)} (h : okL l) (n : Nat) : okL (l.drop n) := fun s hs => h s (List.mem_of_mem_drop hs)
theorem joinB_drop_le (l : List (List UInt8)) (n : Nat) : (joinB (l.drop n)).length ≤ (joinB l).length := by
  have : joinB l = joinB (l.take n) ++ joinB (l.drop n) := by
    conv => lhs; rw [← List.take_append_drop n l]
    simp only [joinB, List.flatMap_append]
  rw [this, List.length_append]
  omega
theorem joinB_take_le (l : List (List UInt8)) (n : Nat) : (joinB (l.take n)).length ≤ (joinB l).length := by
  have : joinB l = joinB (l.take n) ++ joinB (l.drop n) := by
    conv => lhs; rw [← List.take_append_drop n l]
    simp only [joinB, List.flatMap_append]
  rw [this, List.length_append]
  omega

/-! ### Small letters -/
def lowL (l : List (List UInt8)) : List (List UInt8) := l.map fun s => s.map lowU
theorem lowU_small {c : UInt8} (h : c.toNat ≤ 63) : lowU c = c := by rw [lowU, if_neg (by omega)]
theorem lowU_idem (c : UInt8) : lowU (lowU c) = lowU c := by
  unfold lowU
  split
  · rename_i h
    rw [if_neg]
    rw [UInt8.toNat_ofNat']
    omega
  · rfl
theorem low_joinB : ∀ (l : List (List UInt8)), okL l → (joinB l).map lowU = joinB (lowL l)
  | [], _ => rfl
  | s :: r, h => by
    have h2 := (h s (by simp)).2
    have e : (UInt8.ofNat s.length).toNat = s.length := by rw [UInt8.toNat_ofNat']; omega
    rw [joinB_cons, show lowL (s :: r) = s.map lowU :: lowL r from rfl, joinB_cons, List.map_append, List.map_cons, lowU_small (by omega), low_joinB r (fun x hx => h x (by simp [hx])), List.length_map]
theorem okL_low {l : List (List UInt8)} (h : okL l) : okL (lowL l) := fun s hs => by
  obtain ⟨t, ht, rfl⟩ := List.mem_map.1 hs
  obtain ⟨h1, h2⟩ := h t ht
  exact ⟨by simpa using h1, by simpa using h2⟩
theorem joinB_low_length (l : List (List UInt8)) (h : okL l) : (joinB (lowL l)).length = (joinB l).length := by rw [← low_joinB l h, List.length_map]
theorem lab_low {n : List UInt8} {l : List (List UInt8)} (h : lab n = some l) : lowB n = joinB (lowL l) ++ [0] ∧ lab (lowB n) = some (lowL l) := by
  obtain ⟨h1, h2, h3⟩ := lab_some h
  have e : lowB n = joinB (lowL l) ++ [0] := by
    unfold lowB
    rw [h, if_pos (show (some l).isSome = true from rfl), h1, List.map_append, low_joinB l h2]
    rfl
  rw [e]
  exact ⟨rfl, lab_joinB (okL_low h2) (by rw [joinB_low_length l h2]; exact h3)⟩
theorem lab_low_none {n : List UInt8} (h : lab n = none) : lowB n = n := by
  unfold lowB
  rw [h]
  rfl
theorem lowL_idem (l : List (List UInt8)) : lowL (lowL l) = lowL l := by
  unfold lowL
  rw [List.map_map]
  refine List.map_congr_left fun s _ => ?_
  simp only [Function.comp, List.map_map]
  exact List.map_congr_left fun c _ => lowU_idem c
theorem joinB_inj {l m : List (List UInt8)} (hl : okL l) (hm : okL m) (h : joinB l = joinB m) : l = m := by
  have h1 := labS_joinB l hl
  rw [h, labS_joinB m hm] at h1
  injection h1 with h1
  exact h1.symm
theorem sameN_iff {a b : List UInt8} {l m : List (List UInt8)} (ha : lab a = some l) (hb : lab b = some m) : sameN a b = decide (lowL l = lowL m) := by
  obtain ⟨_, h2, _⟩ := lab_some ha
  obtain ⟨_, h3, _⟩ := lab_some hb
  unfold sameN
  rw [ha, hb, (lab_low ha).1, (lab_low hb).1]
  simp only [Option.isSome_some, Bool.true_and]
  congr 1
  rw [List.append_cancel_right_eq]
  exact propext ⟨fun h => joinB_inj (okL_low h2) (okL_low h3) h, fun h => by rw [h]⟩
theorem underN_some {a b : List UInt8} {l m : List (List UInt8)} (ha : lab a = some l) (hb : lab b = some m) : underN a b = (decide (m.length ≤ l.length) && decide (lowL (l.drop (l.length - m.length)) = lowL m)) := by
  unfold underN
  rw [(lab_low ha).2, (lab_low hb).2]
  simp only [lowL, List.length_map, List.map_drop]
theorem underN_none {a b : List UInt8} (h : lab a = none ∨ lab b = none) : underN a b = false := by
  unfold underN
  rcases h with h | h
  · rw [lab_low_none h, h]
  · rw [lab_low_none h, h]
    cases lab (lowB a) <;> rfl
/-- As the reference has it. -/
theorem underN_ref {a b : List UInt8} {l m : List (List UInt8)} (ha : lab a = some l) (hb : lab b = some m) (hml : m.length ≤ l.length) : underN a b = sameN (joinN (l.drop (l.length - m.length))).1 b := by
  obtain ⟨h1, h2, h3⟩ := lab_some ha
  have hok := okL_part h2 (l.length - m.length)
  have hle := joinB_drop_le l (l.length - m.length)
  rw [joinN_ok hok (by omega)]
  dsimp only
  rw [sameN_iff (lab_joinB hok (by omega)) hb, underN_some ha hb]
  simp [hml]

end Go.Proofs.Ytkkhbmpcpilmfaa.VL

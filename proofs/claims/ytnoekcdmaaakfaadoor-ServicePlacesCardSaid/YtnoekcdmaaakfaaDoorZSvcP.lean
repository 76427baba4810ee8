/- Layer 15: what is put in its place is found there, and told: plain. -/
import Derived.Test.YtnoekcdmaaakfaaDoorZSvcK
import Derived.Test.YtnoekcdmaaakfaaDoorZSvcI
set_option linter.unusedVariables false
set_option linter.unusedSimpArgs false
namespace Go.Proofs.YtnoekcdmaaakfaaDoor.VL
open Go Go.RowKit Go.Lib

theorem decS_bad {v : List UInt8} (h : (decS v).2 ≠ 0) : (decS v).1 = svZ := by
  unfold decS at h ⊢
  split
  · rfl
  · rename_i h1
    rw [if_neg h1] at h
    dsimp only at h ⊢
    split
    · rfl
    · rename_i h2
      rw [if_neg h2] at h
      split
      · rfl
      · rename_i h3
        rw [if_neg h3] at h
        exact absurd rfl h
theorem decS_nil : (decS []).2 ≠ 0 := by decide +kernel

theorem pl_ok (l : List En) : ∀ (n : Nat) (k e : Int), 3 ≤ k → k + n = 12 → (e = 0 ∨ (3 ≤ e ∧ e < 12 ∧ ∃ x, getE l e = some x ∧ x.s = [])) → (plGo l n k e).2 = true →
    3 ≤ (plGo l n k e).1 ∧ (plGo l n k e).1 < 12 ∧ (getE l (plGo l n k e).1 = none ∨ ∃ x, getE l (plGo l n k e).1 = some x ∧ x.s = [])
  | 0, k, e, hk, hn, he, h => by
    simp only [plGo, decide_eq_true_eq] at h ⊢
    rcases he with he | he
    · exact absurd he h
    · exact ⟨he.1, he.2.1, .inr he.2.2⟩
  | n + 1, k, e, hk, hn, he, h => by
    rw [plGo] at h ⊢
    cases hx : getE l k with
    | none => dsimp only; exact ⟨hk, by omega, .inl hx⟩
    | some x =>
      rw [hx] at h
      dsimp only at h ⊢
      refine pl_ok l n (k + 1) _ (by omega) (by omega) ?_ h
      split
      · rename_i hh
        exact .inr ⟨hk, by omega, x, hx, hh.1⟩
      · exact he
theorem pl_full (l : List En) : ∀ (n : Nat) (k e : Int), (plGo l n k e).2 = false → ∀ j : Int, k ≤ j → j < k + n → ∃ x ∈ l, x.k = j
  | 0, k, e, _, j, h1, h2 => by omega
  | n + 1, k, e, h, j, h1, h2 => by
    rw [plGo] at h
    cases hx : getE l k with
    | none => rw [hx] at h; cases h
    | some x =>
      rw [hx] at h
      dsimp only at h
      by_cases hj : j = k
      · subst hj
        have h3 := List.find?_some hx
        exact ⟨x, List.mem_of_find?_eq_some hx, by simpa using h3⟩
      · exact pl_full l n (k + 1) _ h j (by omega) (by omega)
theorem nodup_len {α : Type} [DecidableEq α] : ∀ (a b : List α), a.Nodup → (∀ x ∈ a, x ∈ b) → a.length ≤ b.length
  | [], _, _, _ => Nat.zero_le _
  | x :: a, b, hn, hs => by
    obtain ⟨s, t, rfl⟩ := List.append_of_mem (hs x (by simp))
    rw [List.nodup_cons] at hn
    have := nodup_len a (s ++ t) hn.2 fun y hy => by
      have h1 := hs y (by simp [hy])
      rcases List.mem_append.1 h1 with h | h
      · exact List.mem_append.2 (.inl h)
      · rcases List.mem_cons.1 h with rfl | h
        · exact absurd hy hn.1
        · exact List.mem_append.2 (.inr h)
    simp only [List.length_append, List.length_cons] at this ⊢
    omega
/-- Where there is no place, all nine are taken. -/
theorem place_full {l : List En} (h : (placeS l).2 = false) : 9 ≤ l.length := by
  have := nodup_len [3, 4, 5, 6, 7, 8, 9, 10, 11] (l.map (·.k)) (by decide) fun j hj => by
    have h3 : 3 ≤ j ∧ j < 12 := by
      simp only [List.mem_cons, List.not_mem_nil, or_false] at hj
      omega
    obtain ⟨x, hx, e⟩ := pl_full l 9 3 0 h j h3.1 (by omega)
    exact List.mem_map.2 ⟨x, hx, e⟩
  simpa using this

theorem putGo_true (X : En) : ∀ l : List En, (∀ y ∈ l, y.k ≠ X.k) → putGo X l true = l
  | [], _ => rfl
  | y :: l, h => by
    rw [putGo, if_neg (by simp), if_neg (h y (by simp)), Bool.true_or, putGo_true X l fun z hz => h z (by simp [hz])]
    rfl
theorem put_split (X : En) : ∀ (l : List En) (last : Int), tabGo last l = true → ∃ A C B, l = A ++ (C ++ B) ∧ ((C = [] ∧ getE l X.k = none) ∨ ∃ y, C = [y] ∧ getE l X.k = some y) ∧ putGo X l false = A ++ (X :: B)
  | [], _, _ => ⟨[], [], [], rfl, .inl ⟨rfl, rfl⟩, rfl⟩
  | y :: l, last, h => by
    simp only [tabGo, Bool.and_eq_true, decide_eq_true_eq] at h
    have hab : ∀ z ∈ l, y.k < z.k := fun z hz => (tabGo_may h.2.2 z hz).1
    by_cases h1 : y.k = X.k
    · refine ⟨[], [y], l, rfl, .inr ⟨y, rfl, ?_⟩, ?_⟩
      · rw [getE, List.find?_cons]; simp [h1]
      · rw [putGo, if_pos ⟨rfl, by omega⟩, if_pos h1, Bool.false_or, decide_eq_true (by omega), putGo_true X l fun z hz => by have := hab z hz; omega]
        rfl
    · by_cases h2 : X.k ≤ y.k
      · refine ⟨[], [], y :: l, rfl, .inl ⟨rfl, ?_⟩, ?_⟩
        · rw [getE, List.find?_eq_none]
          intro z hz
          rcases List.mem_cons.1 hz with rfl | hz
          · simpa using h1
          · have := hab z hz
            simp
            omega
        · rw [putGo, if_pos ⟨rfl, h2⟩, if_neg h1, Bool.false_or, decide_eq_true h2, putGo_true X l fun z hz => by have := hab z hz; omega]
          rfl
      · obtain ⟨A, C, B, e1, e2, e3⟩ := put_split X l y.k h.2.2
        refine ⟨y :: A, C, B, by rw [e1]; rfl, ?_, ?_⟩
        · have : getE (y :: l) X.k = getE l X.k := by rw [getE, List.find?_cons, decide_eq_false h1]; rfl
          rw [this]; exact e2
        · rw [putGo, if_neg (by simp [h2]), if_neg h1, Bool.false_or, decide_eq_false h2, e3]
          rfl
theorem prs_app (a b : List En) : prs (a ++ b) = prs a ++ prs b := List.filterMap_append
theorem keyS_no {n p : List UInt8} : ∀ {l : List (Int × Sv)}, (keyS n p l).2 = false → NoMt n p l
  | [], _, x, hx => by cases hx
  | y :: l, h, x, hx => by
    rw [keyS] at h
    by_cases hy : y.2.n = n ∧ y.2.p = p
    · rw [if_pos hy] at h; cases h
    · rw [if_neg hy] at h
      rcases List.mem_cons.1 hx with rfl | hx
      · exact hy
      · exact keyS_no h x hx
/-- A service that is put in its place. -/
theorem places_plain {l : List En} (hl : tabOk l = true) {s : Sv} (hs : svOk s = true) (hk : (keyS s.n s.p (prs l)).2 = false) (hp : (placeS l).2 = true) :
    keyS s.n s.p (prs (putGo ⟨(placeS l).1, 1, encB s⟩ l false)) = ((placeS l).1, true) ∧ (s ∈ (prs (putGo ⟨(placeS l).1, 1, encB s⟩ l false)).map (·.2)) ∧ 3 ≤ (placeS l).1 ∧ (placeS l).1 < 12 ∧
    (prs (putGo ⟨(placeS l).1, 1, encB s⟩ l false)).length = (prs l).length + 1 := by
  obtain ⟨h3, h12, hg⟩ := pl_ok l 9 3 0 (by omega) (by omega) (.inl rfl) hp
  have e0 : plGo l 9 3 0 = placeS l := rfl
  rw [e0] at h3 h12 hg
  generalize (placeS l).1 = k at *
  obtain ⟨hd, _⟩ := dec_enc hs
  obtain ⟨A, C, B, e1, e2, e3⟩ := put_split ⟨k, 1, encB s⟩ l (-1) hl
  dsimp only at e2
  rw [e3]
  have hC : prs C = [] := by
    rcases e2 with ⟨rfl, _⟩ | ⟨y, rfl, hy⟩
    · rfl
    · rcases hg with hg | ⟨x, hx, hxs⟩
      · rw [hg] at hy; cases hy
      · rw [hx] at hy
        injection hy with hy
        subst hy
        rw [prs, List.filterMap_cons, hxs, if_neg (fun h => decS_nil h.2)]
        rfl
  have hX : prs (⟨k, 1, encB s⟩ :: B) = (k, s) :: prs B := by
    rw [prs, List.filterMap_cons]
    dsimp only
    rw [hd]
    dsimp only
    rw [if_pos ⟨h3, rfl⟩]
    rfl
  have hL : prs l = prs A ++ prs B := by rw [e1, prs_app, prs_app, hC, List.nil_append]
  rw [prs_app, hX]
  have hno := keyS_no hk
  rw [hL] at hno ⊢
  refine ⟨keyS_some (x := (k, s)) ⟨rfl, rfl⟩ (l := prs A) (fun y hy => hno y (List.mem_append.2 (.inl hy))) ⟨prs B, by simp⟩, by simp, h3, h12, by simp; omega⟩

end Go.Proofs.YtnoekcdmaaakfaaDoor.VL

/- Layer 25: cuts in order, plain; any way is cut. -/
import Derived.Test.YtnoekcdmaaakfaaZNetPC
import Derived.Test.YtnoekcdmaaakfaaZNetL
-- STEPWISE
-- WK
-- HWR
set_option linter.unusedVariables false
set_option linter.unusedSimpArgs false
set_option maxRecDepth 10000
namespace Go.Proofs.Ytnoekcdmaaakfaa.VL
open Go Go.RowKit Go.Lib

theorem ordK {p c : Ct} (hp : ctOk p = true) (hc : ctOk c = true) : decide (ordC p c < 0) = decide (keyC p < keyC c) := by
  obtain ⟨p1, p2, _⟩ := ctOk_le hp
  obtain ⟨c1, c2, _⟩ := ctOk_le hc
  exact ord8' p c p1 p2 c1 c2
theorem chain_iff : ∀ (l : List Ct) (p : Option Ct), (∀ q, p = some q → ctOk q = true) → (chainOk p l = true ↔ (∀ c ∈ l, ctOk c = true) ∧ l.Pairwise (fun x y => keyC x < keyC y) ∧ ∀ q, p = some q → ∀ c ∈ l, keyC q < keyC c)
  | [], p, _ => by simp [chainOk]
  | c :: l, p, hp => by
    cases hc : ctOk c with
    | false =>
      rw [chain_bad hc]
      simp only [Bool.false_eq_true, false_iff, not_and]
      intro h
      rw [h c (List.mem_cons_self ..)] at hc
      cases hc
    | true =>
      have ih := chain_iff l (some c) (fun q hq => by injection hq with hq; rw [← hq]; exact hc)
      cases p with
      | none =>
        rw [chain_none hc, ih]
        simp only [List.mem_cons, forall_eq_or_imp, List.pairwise_cons, hc, true_and, Option.some.injEq, forall_eq', reduceCtorEq, false_implies, implies_true, and_true]
        constructor
        · rintro ⟨h1, h2, h3⟩; exact ⟨h1, h3, h2⟩
        · rintro ⟨h1, h3, h2⟩; exact ⟨h1, h2, h3⟩
      | some q =>
        rw [chain_some hc, ordK (hp q rfl) hc, Bool.and_eq_true, decide_eq_true_eq, ih]
        simp only [List.mem_cons, forall_eq_or_imp, List.pairwise_cons, hc, true_and, Option.some.injEq, forall_eq']
        constructor
        · rintro ⟨h0, h1, h2, h3⟩; exact ⟨h1, ⟨h3, h2⟩, h0, fun x hx => by have := h3 x hx; omega⟩
        · rintro ⟨h1, ⟨h3, h2⟩, h0, h4⟩; exact ⟨h0, h1, h2, h3⟩
theorem chain_ok {l : List Ct} : chainOk none l = true ↔ (∀ c ∈ l, ctOk c = true) ∧ l.Pairwise (fun x y => keyC x < keyC y) := by
  rw [chain_iff l none (fun q h => by cases h)]
  simp
/-- A cut is laid at its place. -/
def insC (c : Ct) : List Ct → List Ct
  | [] => [c]
  | x :: l => if keyC c < keyC x then c :: x :: l else x :: insC c l
theorem insC_perm (c : Ct) : ∀ l : List Ct, (insC c l).Perm (l ++ [c])
  | [] => .refl _
  | x :: l => by
    rw [insC]
    split
    · exact (List.perm_append_comm (l₁ := [c]) (l₂ := x :: l))
    · exact .cons x (insC_perm c l)
theorem insC_pair (c : Ct) : ∀ l : List Ct, l.Pairwise (fun x y => keyC x < keyC y) → (∀ x ∈ l, keyC x ≠ keyC c) → (insC c l).Pairwise (fun x y => keyC x < keyC y)
  | [], _, _ => by simp [insC]
  | x :: l, h, hn => by
    have h1 := List.pairwise_cons.1 h
    have hx := hn x (List.mem_cons_self ..)
    rw [insC]
    split
    · rename_i hc
      refine List.pairwise_cons.2 ⟨fun y hy => ?_, h⟩
      rcases List.mem_cons.1 hy with rfl | hy
      · exact hc
      · have := h1.1 y hy; omega
    · rename_i hc
      refine List.pairwise_cons.2 ⟨fun y hy => ?_, insC_pair c l h1.2 fun y hy => hn y (List.mem_cons_of_mem _ hy)⟩
      have := (insC_perm c l).mem_iff.1 hy
      rcases List.mem_append.1 this with h2 | h2
      · exact h1.1 y h2
      · rw [List.mem_singleton] at h2
        subst h2
        omega
theorem way0 {n : Nt} {a b : Int} {is : Bool} (h : wayN n a b is = 0) : ntOk n = true ∧ nodeOk a = true ∧ nodeOk b = true ∧ a ≠ b ∧ blk n a b = is := by
  unfold wayN at h
  split at h
  · cases h
  · rename_i h1
    split at h
    · cases h
    · rename_i h2
      simp only [not_or, Bool.not_eq_false, ne_eq, Decidable.not_not] at h1 h2
      exact ⟨h1.1, h1.2.1, h1.2.2.1, h1.2.2.2, h2⟩
theorem cutC_ok {a b : Int} (ha : nodeOk a = true) (hb : nodeOk b = true) (hne : a ≠ b) : ctOk (cutC a b) = true := by
  have h1 := nodeOk_le ha
  have h2 := nodeOk_le hb
  unfold ctOk cutC nodeOk
  simp only [Bool.and_eq_true, decide_eq_true_eq]
  omega
theorem keyC_inj {c d : Ct} (hc : ctOk c = true) (hd : ctOk d = true) (h : keyC c = keyC d) : c = d := by
  obtain ⟨c1, c2, _⟩ := ctOk_le hc
  obtain ⟨d1, d2, _⟩ := ctOk_le hd
  obtain ⟨ca, cb⟩ := c
  obtain ⟨da, db⟩ := d
  simp only [keyC] at h
  simp only [Ct.mk.injEq]
  dsimp only at *
  omega
theorem ntOk_cu {n : Nt} (h : ntOk n = true) : n.fl.length ≤ 60 ∧ n.cu.length ≤ 28 ∧ n.fl.all mlOk = true ∧ (∀ c ∈ n.cu, ctOk c = true) ∧ n.cu.Pairwise (fun x y => keyC x < keyC y) := by
  unfold ntOk at h
  simp only [Bool.and_eq_true, decide_eq_true_eq] at h
  obtain ⟨h1, h2, h3, h4⟩ := h
  obtain ⟨h5, h6⟩ := chain_ok.1 h4
  exact ⟨h1, h2, h3, h5, h6⟩
/-- A way is cut. -/
def partN (n : Nt) (a b : Int) : Nt × Int := if wayN n a b false = 0 then (⟨n.fl, insC (cutC a b) n.cu⟩, 0) else (n, wayN n a b false)

end Go.Proofs.Ytnoekcdmaaakfaa.VL

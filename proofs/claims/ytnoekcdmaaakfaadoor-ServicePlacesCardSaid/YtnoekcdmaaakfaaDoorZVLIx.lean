/- The value logic: the first place where something holds. -/
import Derived.Test.YtnoekcdmaaakfaaDoorZCd
set_option linter.unusedVariables false
set_option linter.unusedSimpArgs false
namespace Go.Proofs.YtnoekcdmaaakfaaDoor.VL
open Go Go.RowKit Go.Lib

/-- The first place where f holds. -/
def ixOf {α : Type} (f : α → Bool) : List α → Nat → Int
  | [], _ => -1
  | x :: l, i => if f x then (i : Int) else ixOf f l (i + 1)
theorem ixOf_any {α : Type} (f : α → Bool) : ∀ (l : List α) (i : Nat), decide (0 ≤ ixOf f l i) = l.any f
  | [], _ => by simp [ixOf]
  | x :: l, i => by
    rw [ixOf, List.any_cons]
    by_cases h : f x = true
    · rw [if_pos h, h]; simp
    · rw [if_neg h, ixOf_any f l (i + 1)]
      simp [h]
theorem ixOf_drop {α : Type} (f : α → Bool) {l : List α} {i : Nat} {x : α} (h : l[i]? = some x) : ixOf f (l.drop i) i = if f x then (i : Int) else ixOf f (l.drop (i + 1)) (i + 1) := by
  have hi := (List.getElem?_eq_some_iff.1 h).1
  rw [List.drop_eq_getElem_cons hi, ixOf, (List.getElem?_eq_some_iff.1 h).2]

theorem ltVV {n : Nat} (a b : Value) : Lt n (.tup [.v a, .v b]) := .tup _ fun i c hi => by
  rcases i with _ | _ | i <;> simp at hi <;> subst hi <;> exact .v _
/-- All new boxes are forgotten at the end of a round. -/
theorem Coe.cut0 {E : Ent} {l l' : List (Nat × AV)} {N : List Box} (h : Keeps l l') (hlt : ∀ p ∈ l', Lt E.H.length p.2) : Coe E ⟨l, E.H ++ N⟩ ⟨l', E.H⟩ := by
  have := Coe.cutN (E := E) (M := []) (N := N) h (by simpa using hlt) (by simp)
  simpa using this

end Go.Proofs.YtnoekcdmaaakfaaDoor.VL

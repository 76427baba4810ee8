/- Layer 16: names of the domain system, in plain lists of bytes. -/
import Derived.Test.YtkkhbmpcpilmfaaDoorVLMore
import Derived.Test.YtkkhbmpcpilmfaaDoorQuillA
set_option linter.unusedVariables false
set_option linter.unusedSimpArgs false
namespace Go.Proofs.YtkkhbmpcpilmfaaDoor.VL
open Go Go.RowKit Go.Lib

/-- The labels that a name has, by so many steps at most. -/
def labF : Nat → List UInt8 → Option (List (List UInt8))
  | 0, _ => none
  | _ + 1, [] => none
  | k + 1, c :: r => if c.toNat = 0 then (if r = [] then some [] else none) else if 63 < c.toNat ∨ r.length < c.toNat then none else (labF k (r.drop c.toNat)).map (r.take c.toNat :: ·)
def lab (s : List UInt8) : Option (List (List UInt8)) := if 255 < s.length then none else labF (s.length + 1) s
theorem labF_fuel : ∀ (k k' : Nat) (s : List UInt8), s.length < k → s.length < k' → labF k s = labF k' s := by
  intro k
  induction k with
  | zero => intro k' s h; omega
  | succ k ih =>
    intro k' s h h'
    obtain ⟨k'', rfl⟩ : ∃ m, k' = m + 1 := ⟨k' - 1, by omega⟩
    cases s with
    | nil => rfl
    | cons c r =>
      simp only [labF, List.length_cons] at h h' ⊢
      rw [ih k'' (r.drop c.toNat) (by rw [List.length_drop]; omega) (by rw [List.length_drop]; omega)]
/-- One label more. -/
def labS (s : List UInt8) : Option (List (List UInt8)) := labF (s.length + 1) s
theorem labS_nil : labS [] = none := rfl
theorem labS_zero {c : UInt8} {r : List UInt8} (h : c.toNat = 0) : labS (c :: r) = if r = [] then some [] else none := by
  unfold labS
  rw [labF, if_pos h]
theorem labS_bad {c : UInt8} {r : List UInt8} (h : ¬ c.toNat = 0) (h2 : 63 < c.toNat ∨ r.length < c.toNat) : labS (c :: r) = none := by
  unfold labS
  rw [labF, if_neg h, if_pos h2]
theorem labS_more {c : UInt8} {r : List UInt8} (h : ¬ c.toNat = 0) (h2 : ¬ (63 < c.toNat ∨ r.length < c.toNat)) : labS (c :: r) = (labS (r.drop c.toNat)).map (r.take c.toNat :: ·) := by
  unfold labS
  rw [labF, if_neg h, if_neg h2]
  congr 1
  exact labF_fuel _ _ _ (by rw [List.length_drop, List.length_cons]; omega) (by omega)
theorem lab_of {s : List UInt8} (h : ¬ 255 < s.length) : lab s = labS s := by rw [lab, if_neg h]; rfl
abbrev labV : Option (List (List UInt8)) → AV
  | some l => .tup [.lst 1 (strG l), vb true]
  | none => .tup [.dead, vb false]
abbrev labE : Option (List (List UInt8)) → AV
  | some l => .tup [.lst 1 (strG l), vb true]
  | none => .tup [.emp, vb false]
def lowU (c : UInt8) : UInt8 := if 65 ≤ c.toNat ∧ c.toNat ≤ 90 then UInt8.ofNat (c.toNat + 32) else c
def lowB (s : List UInt8) : List UInt8 := if (lab s).isSome then s.map lowU else s
def sameN (a b : List UInt8) : Bool := (lab a).isSome && ((lab b).isSome && decide (lowB a = lowB b))

end Go.Proofs.YtkkhbmpcpilmfaaDoor.VL

/- The value logic, part 12b: what a walk of regions with kept places rewrites by; slices of strings. -/
import Derived.Test.YtkkhbmpcpilmfaaDoorVLTac
import Derived.Test.YtkkhbmpcpilmfaaDoorVLHole
set_option linter.unusedVariables false
set_option linter.unusedSimpArgs false
namespace Go.Proofs.YtkkhbmpcpilmfaaDoor.VL
open Go Go.RowKit Go.Lib

theorem hcall.det {P : Program} {base : Nat} {f : FuncId} {args : List AV} {X : (Nat → Box) → List Box} {K : AV → Prop} {r : AV} (h : ∀ f', ASpec P f args (X f') (fun o H' => o = .ret r ∧ H' = X f')) (hK : K r) :
    ∃ r, (∀ f', acall P base f args (X f') (fun o H' => o = .ret r ∧ H' = X f')) ∧ K r := ⟨r, fun f' => h f' base, hK⟩

/-- Rows of strings. -/
abbrev strG (l : List (List UInt8)) : List (List AV) := l.map fun s => [AV.v (.string ⟨s.toArray⟩)]
@[go_sem] theorem strG_length (l : List (List UInt8)) : (strG l).length = l.length := by simp [strG]
@[go_sem] theorem strG_get (l : List (List UInt8)) (i : Nat) : (strG l)[i]? = (l[i]?).map fun s => [AV.v (.string ⟨s.toArray⟩)] := by simp [strG]
theorem lt_str {n : Nat} (l : List (List UInt8)) : Lt n (.lst 1 (strG l)) := .lst _ _ fun i j g c hi hj => by
  simp only [strG, List.getElem?_map] at hi
  obtain ⟨b, _, rfl⟩ := Option.map_eq_some_iff.1 hi
  cases j with
  | zero => simp at hj; subst hj; exact .v _
  | succ j => simp at hj

end Go.Proofs.YtkkhbmpcpilmfaaDoor.VL

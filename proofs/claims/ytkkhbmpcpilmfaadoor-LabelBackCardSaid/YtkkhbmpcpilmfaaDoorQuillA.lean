/- Layer 1: what the reference's and the program's functions on numbers' and texts' bytes compute. -/
import Derived.Test.YtkkhbmpcpilmfaaDoorVLTy
import Derived.Test.YtkkhbmpcpilmfaaDoorQuillM
-- STEPWISE
set_option linter.unusedVariables false
set_option linter.unusedSimpArgs false
set_option maxRecDepth 10000
namespace Go.Proofs.YtkkhbmpcpilmfaaDoor.VL
open Go Go.RowKit Go.Lib

/-- A call answers just this, and leaves the boxes as they were. -/
abbrev Gives (r : AV) (H : List Box) : Out → List Box → Prop := fun o H' => o = .ret r ∧ H' = H
abbrev vi (n : Int) : AV := .v (.int .i64 n)
abbrev vb (b : Bool) : AV := .v (.bool b)
abbrev vs (bs : List UInt8) : AV := .v (.string ⟨bs.toArray⟩)
abbrev vB (bs : List UInt8) : AV := .lst 1 (bytesG bs)
/-- A new row of bytes, one's own. -/
abbrev Owns (bs : List UInt8) (H : List Box) : Out → List Box → Prop := fun o H' => o = .ret (.sl H.length 0 0 bs.length 1 false) ∧ H' = H ++ [⟨bytesC bs, 0, 0, true⟩]

theorem len8_get : ∀ i, i < 256 → ((([0, 1, 2, 2, 3, 3, 3, 3, 4, 4, 4, 4, 4, 4, 4, 4, 5, 5, 5, 5, 5, 5, 5, 5, 5, 5, 5, 5, 5, 5, 5, 5, 6, 6, 6, 6, 6, 6, 6, 6, 6, 6, 6, 6, 6, 6, 6, 6, 6, 6, 6, 6, 6, 6, 6, 6, 6, 6, 6, 6, 6, 6, 6, 6] : List UInt8).append [7, 7, 7, 7, 7, 7, 7, 7, 7, 7, 7, 7, 7, 7, 7, 7, 7, 7, 7, 7, 7, 7, 7, 7, 7, 7, 7, 7, 7, 7, 7, 7, 7, 7, 7, 7, 7, 7, 7, 7, 7, 7, 7, 7, 7, 7, 7, 7, 7, 7, 7, 7, 7, 7, 7, 7, 7, 7, 7, 7, 7, 7, 7, 7]).append (([8, 8, 8, 8, 8, 8, 8, 8, 8, 8, 8, 8, 8, 8, 8, 8, 8, 8, 8, 8, 8, 8, 8, 8, 8, 8, 8, 8, 8, 8, 8, 8, 8, 8, 8, 8, 8, 8, 8, 8, 8, 8, 8, 8, 8, 8, 8, 8, 8, 8, 8, 8, 8, 8, 8, 8, 8, 8, 8, 8, 8, 8, 8, 8] : List UInt8).append [8, 8, 8, 8, 8, 8, 8, 8, 8, 8, 8, 8, 8, 8, 8, 8, 8, 8, 8, 8, 8, 8, 8, 8, 8, 8, 8, 8, 8, 8, 8, 8, 8, 8, 8, 8, 8, 8, 8, 8, 8, 8, 8, 8, 8, 8, 8, 8, 8, 8, 8, 8, 8, 8, 8, 8, 8, 8, 8, 8, 8, 8, 8, 8]))[i]? = some (UInt8.ofNat (blen i)) := by decide
theorem blen_small : ∀ i, i < 256 → blen i ≤ 8 := by decide
theorem u8_small (i : Nat) (h : i < 256) : ((UInt8.ofNat (blen i)).toNat : Int) = blen i := by
  have := blen_small i h
  simp [UInt8.toNat_ofNat']
  omega
theorem len_key (n k p m : Nat) (hp : p = 2 ^ k) (h1 : n / p = m) (h3 : k = 0 ∨ p ≤ n) : (k : Int) + (blen m : Int) = blen n := by
  subst h1; subst hp
  rcases h3 with rfl | h3
  · simp
  · rw [blen_shift k n h3]; omega
end Go.Proofs.YtkkhbmpcpilmfaaDoor.VL

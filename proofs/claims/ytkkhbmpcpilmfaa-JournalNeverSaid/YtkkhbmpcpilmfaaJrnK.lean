/- Layers 12, 13: formats and writes, as the reference has them; whether disks are the same. -/
import Derived.Test.YtkkhbmpcpilmfaaJrnH
-- STEPWISE
-- TAIL
set_option linter.unusedVariables false
set_option linter.unusedSimpArgs false
set_option maxRecDepth 10000
namespace Go.Proofs.Ytkkhbmpcpilmfaa.VL
open Go Go.RowKit Go.Lib

theorem copyF_spec (D : Dk) (hl : D.s.length ≤ 1099511627) (h64 : all64 D.s) (H : List Box) : ASpec Try.prog 58 [dkV D] H (Gives (dkV D) H) :=
  (copy_spec D hl H).shed fun E hE => by
    subst hE
    obtain ⟨_, _, hs, rfl, rfl⟩ := Fin.froz (E := E) (N := [⟨bytesC D.s.flatten, 0, 0, true⟩]) (r := .agg [.sl E.H.length 0 0 D.s.length 64 false, vi D.f, vb D.d]) (r' := dkV D) (b := E.H.length) (g := 0) (n := D.s.length) (full := false) (bx := ⟨bytesC D.s.flatten, 0, 0, true⟩) (L := D.s)
      (K := fun r H => r = dkV D ∧ H = E.H) (by simp) (Nat.le_refl _) rfl rfl rfl h64 (fun w H β v hsw hr => rep_agg_sw hsw hr) (lt_dkV _ _ _) ⟨rfl, rfl⟩
    exact hs
def dkSame (A B : Dk) : Bool := decide (A.s = B.s) && (decide (A.f = B.f) && decide (A.d = B.d))
end Go.Proofs.Ytkkhbmpcpilmfaa.VL

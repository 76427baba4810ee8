/- Frames among a law's arguments. -/
import Derived.Test.YtgnafjnaombikaaFrameF
import Derived.Test.YtgnafjnaombikaaVLRow
import Derived.Lib.SmallJoins
set_option linter.unusedVariables false
set_option linter.unusedSimpArgs false
set_option linter.constructorNameAsVariable false
set_option maxRecDepth 10000
namespace Go.Proofs.Ytgnafjnaombikaa.VL
open Go Go.RowKit Go.Lib Go.ChangeShapes Go.WideShapes
variable {H : Type} {enc : TypeId × Value → H}

theorem reps4 {W : World} {a b c d : AV} {v0 v1 v2 v3 : Value} (h0 : Rep W [] noP a v0) (h1 : Rep W [] noP b v1) (h2 : Rep W [] noP c v2) (h3 : Rep W [] noP d v3) : Rep W [] noP (.agg [a, b, c, d]) (.agg #[v0, v1, v2, v3]) :=
  .agg _ _ rfl fun i c x hc hx => by
    rcases i with _ | _ | _ | _ | i
    · simp at hc hx; subst hc; subst hx; exact h0
    · simp at hc hx; subst hc; subst hx; exact h1
    · simp at hc hx; subst hc; subst hx; exact h2
    · simp at hc hx; subst hc; subst hx; exact h3
    · simp at hc
theorem rep_frame {W : World} {b0 : Nat} {v : Value} {d : DataW H} {ps : List MemPlace} (hval : Value.okWide Try.prog W .any b0 25 v) (hd : DataW.Trod enc Try.prog W 0 (fun _ => true) true 25 v d ps) :
    ∃ f : Fr, Rep W [] noP (frV f) v ∧ f.p.length ≤ 9223372036854775807 ∧ f.c.length ≤ 9223372036854775807 := by
  obtain ⟨v0, v1, v2, v3, y0, y1, y2, y3, n, rfl, _, _, h0, h1, h2, h3⟩ := Go.Joins.open_agg4 Try.underlying25 (by kernel_rfl) (by kernel_rfl) hval hd
  obtain ⟨k, r0, _⟩ := repc_int Try.underlying3 h0
  obtain ⟨c, r1, b1⟩ := repc_string Try.underlying9 h1
  obtain ⟨m, r2, _⟩ := repc_int Try.underlying3 h2
  obtain ⟨p, r3, b3⟩ := repc_bytes Try.underlying22 Try.underlying5 rfl h3
  exact ⟨⟨k, c, m, p⟩, reps4 r0 r1 r2 r3, b3, b1⟩

end Go.Proofs.Ytgnafjnaombikaa.VL

/- Records and sectors among a law's arguments. -/
import Derived.Test.YtadajfahlgekiaaJrnJ
import Derived.Test.YtadajfahlgekiaaVLRow
import Derived.Lib.SmallJoins
import Derived.OpenShut
set_option linter.unusedVariables false
set_option linter.unusedSimpArgs false
set_option linter.constructorNameAsVariable false
set_option maxRecDepth 10000
namespace Go.Proofs.Ytadajfahlgekiaa.VL
open Go Go.RowKit Go.Lib Go.ChangeShapes Go.WideShapes
variable {H : Type} {enc : TypeId × Value → H}

theorem rep_rec {W : World} {b0 : Nat} {v : Value} {d : DataW H} {ps : List MemPlace} (hval : Value.okWide Try.prog W .any b0 23 v) (hd : DataW.Trod enc Try.prog W 0 (fun _ => true) true 23 v d ps) :
    ∃ x : Rc, Rep W [] noP (rcV x) v ∧ x.n.length ≤ 9223372036854775807 := by
  obtain ⟨v0, v1, v2, y0, y1, y2, n, rfl, _, _, h0, h1, h2⟩ := Go.Joins.open_agg3 Try.underlying23 (by kernel_rfl) (by kernel_rfl) hval hd
  obtain ⟨q, r0, _⟩ := repc_int Try.underlying3 h0
  obtain ⟨g, r1, _⟩ := repc_int Try.underlying3 h1
  obtain ⟨s, r2, b2⟩ := repc_string Try.underlying9 h2
  refine ⟨⟨q, g, s⟩, .agg _ _ rfl fun i c x hc hx => ?_, b2⟩
  rcases i with _ | _ | _ | i
  · simp at hc hx; subst hc; subst hx; exact r0
  · simp at hc hx; subst hc; subst hx; exact r1
  · simp at hc hx; subst hc; subst hx; exact r2
  · simp at hc

/-- The cells of an array of 64 bytes. -/
theorem repc_sec {P : Program} {W : World} {t e : TypeId} {fuel : Nat} {cs : List Value} {x : DataW H × List MemPlace} (ht : P.underlying t = some (.array 64 e)) (he : P.underlying e = some (.int .u8)) (hc : P.cellsOf e = 1) (hct : P.cellsOf t = 64)
    (hf : DataW.trod enc P W 0 (fun _ => true) true fuel t cs = some x) : ∃ bs : List UInt8, bs.length = 64 ∧ cs = bs.map fun b => Value.int .u8 b.toNat := by
  obtain ⟨xs, m, _, _, hl, hxl, hi⟩ := DataW.trod_array ht hf
  rw [hct] at hl
  have key : ∀ i, i < 64 → ∃ n : Int, cs[i]? = some (.int .u8 n) ∧ 0 ≤ n ∧ n ≤ 255 := fun i h => by
    have h1 := hi i h
    rw [hc, List.getElem?_eq_getElem (by omega)] at h1
    obtain ⟨n, h2, _, h3⟩ := DataW.trod_int he h1
    have h4 : ((cs.drop (i * 1)).take 1)[0]? = some (.int .u8 n) := by rw [h2]; rfl
    rw [List.getElem?_take_of_lt (by omega), List.getElem?_drop, Nat.mul_one, Nat.add_zero] at h4
    have h5 : IntKind.min .u8 ≤ n ∧ n ≤ IntKind.max .u8 := by simpa [Lit.wf] using h3
    simp [IntKind.min, IntKind.max, IntKind.signed, IntKind.bits] at h5
    exact ⟨n, h4, h5.1, h5.2⟩
  refine ⟨cs.map fun v => match v with | .int _ n => UInt8.ofNat n.toNat | _ => 0, by rw [List.length_map]; exact hl, ?_⟩
  apply List.ext_getElem?
  intro i
  by_cases h : i < 64
  · obtain ⟨n, h1, h2, h3⟩ := key i h
    simp only [List.getElem?_map, h1, Option.map_some]
    congr 2
    rw [UInt8.toNat_ofNat']
    omega
  · rw [List.getElem?_eq_none (by omega), List.getElem?_eq_none (by simp; omega)]
theorem rep_sec {W : World} {b0 : Nat} {v : Value} {d : DataW H} {ps : List MemPlace} (hval : Value.okWide Try.prog W .any b0 24 v) (hd : DataW.Trod enc Try.prog W 0 (fun _ => true) true 24 v d ps) :
    ∃ b : List UInt8, Rep W [] noP (.agg (bytesC b)) v ∧ b.length = 64 := by
  have hval := hval
  unfold Value.okWide at hval
  rw [Try.underlying24] at hval
  obtain ⟨cs, rfl, hsz, _⟩ := hval
  obtain ⟨fuel, hf⟩ := hd
  obtain ⟨bs, h1, h2⟩ := repc_sec Try.underlying24 Try.underlying5 (by kernel_rfl) (by kernel_rfl) hf
  have h2 : cs.toList = bs.map fun b => Value.int .u8 b.toNat := by simpa [Value.cells] using h2
  refine ⟨bs, .agg _ _ ?_ fun i c x hc hx => ?_, h1⟩
  · have := congrArg List.length h2
    simp only [Array.length_toList, List.length_map] at this
    rw [this, bytesC_length]
  · rw [← Array.getElem?_toList, h2] at hx
    simp only [bytesC, List.getElem?_map] at hc hx
    obtain ⟨b, hb, rfl⟩ := Option.map_eq_some_iff.1 hc
    rw [hb] at hx
    simp at hx
    subst hx
    exact .v _

end Go.Proofs.Ytadajfahlgekiaa.VL

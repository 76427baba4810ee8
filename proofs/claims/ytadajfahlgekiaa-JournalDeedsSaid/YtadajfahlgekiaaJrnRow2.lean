/- Disks among a law's arguments. -/
import Derived.Test.YtadajfahlgekiaaJrnL
import Derived.Test.YtadajfahlgekiaaJrnRow
set_option linter.unusedVariables false
set_option linter.unusedSimpArgs false
set_option linter.constructorNameAsVariable false
set_option maxRecDepth 10000
namespace Go.Proofs.Ytadajfahlgekiaa.VL
open Go Go.RowKit Go.Lib Go.ChangeShapes Go.WideShapes
variable {H : Type} {enc : TypeId × Value → H}

theorem repc_secs {P : Program} {W : World} {t e u : TypeId} {v : Value} {fuel : Nat} {x : DataW H × List MemPlace} (ht : P.underlying t = some (.slice e)) (he : P.underlying e = some (.array 64 u)) (hu : P.underlying u = some (.int .u8)) (hcu : P.cellsOf u = 1) (hce : P.cellsOf e = 64)
    (hf : DataW.trod enc P W 0 (fun _ => true) true fuel t [v] = some x) : ∃ l : List (List UInt8), Rep W [] noP (.lst 64 (secG l)) v ∧ all64 l ∧ l.length ≤ 9223372036854775807 := by
  rcases DataW.trod_slice ht hf with ⟨h, _⟩ | ⟨a, len, cap, elems, rest, n, _, h, _, _, hlc, hm, hel, hcells, _, _⟩
  · injection h with h _
    subst h
    exact ⟨[], .lst0 64 none 0, fun x hx => by simp at hx, by simp⟩
  · injection h with h _
    subst h
    have key : ∀ i, i < len → ∃ bs : List UInt8, bs.length = 64 ∧ ∀ j, j < 64 → W.cell? ((a.add (i * 64)).add j) = (bs[j]?).map fun b => Value.int .u8 b.toNat := fun i hi => by
      have h1 := hcells i hi
      rw [List.getElem?_eq_getElem (by omega), hce] at h1
      obtain ⟨cs, h2, h3⟩ := Option.bind_eq_some_iff.1 h1
      obtain ⟨_, h4, h5⟩ := World.cells?_some h2
      obtain ⟨bs, h6, h7⟩ := repc_sec he hu hcu hce h3
      refine ⟨bs, h6, fun j hj => ?_⟩
      rw [h5 j hj, h7, List.getElem?_map]
    have hl : ∃ l : List (List UInt8), l.length = len ∧ ∀ i, i < len → ∃ bs : List UInt8, l[i]? = some bs ∧ bs.length = 64 ∧ ∀ j, j < 64 → W.cell? ((a.add (i * 64)).add j) = (bs[j]?).map fun b => Value.int .u8 b.toNat := by
      have gen : ∀ m, m ≤ len → ∃ l : List (List UInt8), l.length = m ∧ ∀ i, i < m → ∃ bs : List UInt8, l[i]? = some bs ∧ bs.length = 64 ∧ ∀ j, j < 64 → W.cell? ((a.add (i * 64)).add j) = (bs[j]?).map fun b => Value.int .u8 b.toNat := by
        intro m
        induction m with
        | zero => intro _; exact ⟨[], rfl, fun i hi => by omega⟩
        | succ m ih =>
          intro hm
          obtain ⟨l, h1, h2⟩ := ih (by omega)
          obtain ⟨bs, h3, h4⟩ := key m (by omega)
          refine ⟨l ++ [bs], by simp [h1], fun i hi => ?_⟩
          by_cases him : i = m
          · subst him
            exact ⟨bs, by rw [List.getElem?_append_right (by omega)]; simp [h1], h3, h4⟩
          · obtain ⟨b', h5, h6⟩ := h2 i (by omega)
            exact ⟨b', by rw [List.getElem?_append_left (by omega)]; exact h5, h6⟩
      exact gen len (Nat.le_refl _)
    obtain ⟨l, hll, hget⟩ := hl
    have h64 : all64 l := fun x hx => by
      obtain ⟨i, hi⟩ := List.mem_iff_getElem?.1 hx
      have hil := (List.getElem?_eq_some_iff.1 hi).1
      obtain ⟨bs, h1, h2, _⟩ := hget i (by omega)
      rw [hi] at h1
      injection h1 with h1
      rw [h1]; exact h2
    refine ⟨l, ?_, h64, by simp only [maxLen] at hm; omega⟩
    rcases Nat.eq_zero_or_pos len with h0 | h0
    · subst h0
      have : l = [] := List.eq_nil_of_length_eq_zero hll
      subst this
      exact .lst0 64 _ _
    · have hsp : a.spot = none := by
        obtain ⟨bs, _, h2, h3⟩ := hget 0 h0
        have h4 := h3 0 (by decide)
        rw [List.getElem?_eq_getElem (by omega)] at h4
        unfold World.cell? at h4
        split at h4
        · cases hs : a.spot with
          | none => rfl
          | some y => simp [Addr.add, hs] at h4
        · cases h4
      obtain ⟨k0, s0, sp⟩ := a
      dsimp only at hsp
      subst hsp
      have hcell : ∀ (i j : Nat) (g : List AV) (c : AV), (secG l)[i]? = some g → g[j]? = some c → ∃ b : UInt8, c = .v (.int .u8 b.toNat) ∧ W.cell? ⟨k0, s0 + i * 64 + j, none⟩ = some (.int .u8 b.toNat) := fun i j g c hi hj => by
        simp only [secG, List.getElem?_map] at hi
        obtain ⟨bs, hb, rfl⟩ := Option.map_eq_some_iff.1 hi
        have hil := (List.getElem?_eq_some_iff.1 hb).1
        obtain ⟨bs', h1, h2, h3⟩ := hget i (by omega)
        rw [hb] at h1
        injection h1 with h1
        subst h1
        simp only [bytesC, List.getElem?_map] at hj
        obtain ⟨b, hbj, rfl⟩ := Option.map_eq_some_iff.1 hj
        have hjl := (List.getElem?_eq_some_iff.1 hbj).1
        have h4 := h3 j (by omega)
        rw [hbj, add_plain, add_plain] at h4
        exact ⟨b, rfl, h4⟩
      have := Rep.lst (w := W) (H := []) (β := noP) 64 (secG l) k0 s0 cap (fun i j => (W.cell? ⟨k0, s0 + i * 64 + j, none⟩).getD undef) (by rw [secG_length]; omega) (fun i g hg => by
          simp only [secG, List.getElem?_map] at hg
          obtain ⟨bs, hb, rfl⟩ := Option.map_eq_some_iff.1 hg
          rw [bytesC_length]
          exact h64 bs (List.mem_of_getElem? hb)) (fun i j g c hi hj => by
          obtain ⟨b, _, h2⟩ := hcell i j g c hi hj
          rw [h2]
          exact ⟨rfl, rfl, not_wr _ _⟩) (fun i j g c hi hj => by
          obtain ⟨b, rfl, h2⟩ := hcell i j g c hi hj
          rw [h2]
          exact .v _)
      rw [secG_length, hll] at this
      exact this
theorem rep_disk {W : World} {b0 : Nat} {v : Value} {d : DataW H} {ps : List MemPlace} (hval : Value.okWide Try.prog W .any b0 34 v) (hd : DataW.Trod enc Try.prog W 0 (fun _ => true) true 34 v d ps) :
    ∃ D : Dk, Rep W [] noP (dkV D) v ∧ D.s.length ≤ 9223372036854775807 ∧ D.f ≤ 9223372036854775807 ∧ all64 D.s := by
  obtain ⟨v0, v1, v2, y0, y1, y2, n, rfl, _, _, h0, h1, h2⟩ := Go.Joins.open_agg3 Try.underlying34 (by kernel_rfl) (by kernel_rfl) hval hd
  obtain ⟨l, r0, b0, c0⟩ := repc_secs Try.underlying32 Try.underlying24 Try.underlying5 (by kernel_rfl) (by kernel_rfl) h0
  obtain ⟨f, r1, b1⟩ := repc_int Try.underlying3 h1
  obtain ⟨d, h3, _⟩ := DataW.trod_bool Try.underlying4 h2
  injection h3 with h3 _
  subst h3
  have hfm : f ≤ 9223372036854775807 := by
    have := b1.2
    simp [IntKind.max, IntKind.signed, IntKind.bits] at this
    exact this
  refine ⟨⟨l, f, d⟩, .agg _ _ rfl fun i c x hc hx => ?_, c0, hfm, b0⟩
  rcases i with _ | _ | _ | i
  · simp at hc hx; subst hc; subst hx; exact r0
  · simp at hc hx; subst hc; subst hx; exact r1
  · simp at hc hx; subst hc; subst hx; exact .v _
  · simp at hc

end Go.Proofs.Ytadajfahlgekiaa.VL

/- The value logic: slices among a law's arguments, whatever their elements. -/
import Derived.Test.YtkkhbmpcpilmfaaDoorVLRow
import Derived.Test.YtkkhbmpcpilmfaaDoorVLHoleT
import Derived.Lib.SmallJoins
import Derived.OpenShut
set_option linter.unusedVariables false
set_option linter.unusedSimpArgs false
set_option linter.constructorNameAsVariable false
namespace Go.Proofs.YtkkhbmpcpilmfaaDoor.VL
open Go Go.RowKit Go.Lib Go.ChangeShapes Go.WideShapes
variable {H : Type} {enc : TypeId × Value → H}

/-- Cells that are what abstract ones say, each one cell wide. -/
def CellsRep (W : World) (g : List AV) (cs : List Value) : Prop := g.length = cs.length ∧ ∀ (i : Nat) (c : AV) (v : Value), g[i]? = some c → cs[i]? = some v → v.oneCell' = true ∧ Rep W [] noP c v
theorem CellsRep.nil (W : World) : CellsRep W [] [] := ⟨rfl, fun i c v h => by simp at h⟩
theorem CellsRep.cons {W : World} {c : AV} {v : Value} {g : List AV} {cs : List Value} (h1 : v.oneCell' = true) (h2 : Rep W [] noP c v) (h : CellsRep W g cs) : CellsRep W (c :: g) (v :: cs) := by
  refine ⟨by simp [h.1], fun i c' v' hc hv => ?_⟩
  cases i with
  | zero => simp at hc hv; subst hc; subst hv; exact ⟨h1, h2⟩
  | succ i => exact h.2 i c' v' (by simpa using hc) (by simpa using hv)

theorem repc_rows {P : Program} {W : World} {t e : TypeId} {v : Value} {fuel : Nat} {x : DataW H × List MemPlace} {α : Type} (F : α → List AV) (OK : α → Prop) {sz : Nat} (ht : P.underlying t = some (.slice e)) (hce : P.cellsOf e = sz) (hsz : 0 < sz)
    (hel : ∀ (fuel : Nat) (cs : List Value) (y : DataW H × List MemPlace), cs.length = sz → DataW.trod enc P W 0 (fun _ => true) true fuel e cs = some y → ∃ a : α, OK a ∧ CellsRep W (F a) cs)
    (hf : DataW.trod enc P W 0 (fun _ => true) true fuel t [v] = some x) : ∃ l : List α, Rep W [] noP (.lst sz (l.map F)) v ∧ (∀ a ∈ l, OK a) ∧ l.length ≤ 9223372036854775807 := by
  rcases DataW.trod_slice ht hf with ⟨h, _⟩ | ⟨a, len, cap, elems, rest, n, _, h, _, _, hlc, hm, hel', hcells, _, _⟩
  · injection h with h _
    subst h
    exact ⟨[], .lst0 sz none 0, fun x hx => by simp at hx, by simp⟩
  · injection h with h _
    subst h
    have key : ∀ i, i < len → ∃ (y : α) (cs : List Value), OK y ∧ CellsRep W (F y) cs ∧ cs.length = sz ∧ ∀ j, j < sz → W.cell? ((a.add (i * sz)).add j) = cs[j]? := fun i hi => by
      have h1 := hcells i hi
      rw [List.getElem?_eq_getElem (by omega), hce] at h1
      obtain ⟨cs, h2, h3⟩ := Option.bind_eq_some_iff.1 h1
      obtain ⟨h4, h4', h5⟩ := World.cells?_some h2
      have hlen : cs.length = sz := by first | exact h4 | exact h4'
      obtain ⟨y, h6, h7⟩ := hel n cs _ hlen h3
      exact ⟨y, cs, h6, h7, hlen, fun j hj => h5 j hj⟩
    have hl : ∃ l : List α, l.length = len ∧ (∀ y ∈ l, OK y) ∧ ∀ i, i < len → ∃ (y : α) (cs : List Value), l[i]? = some y ∧ CellsRep W (F y) cs ∧ cs.length = sz ∧ ∀ j, j < sz → W.cell? ((a.add (i * sz)).add j) = cs[j]? := by
      have gen : ∀ m, m ≤ len → ∃ l : List α, l.length = m ∧ (∀ y ∈ l, OK y) ∧ ∀ i, i < m → ∃ (y : α) (cs : List Value), l[i]? = some y ∧ CellsRep W (F y) cs ∧ cs.length = sz ∧ ∀ j, j < sz → W.cell? ((a.add (i * sz)).add j) = cs[j]? := by
        intro m
        induction m with
        | zero => intro _; exact ⟨[], rfl, fun y hy => by simp at hy, fun i hi => by omega⟩
        | succ m ih =>
          intro hm
          obtain ⟨l, h1, h1', h2⟩ := ih (by omega)
          obtain ⟨y, cs, h3, h4, h5, h6⟩ := key m (by omega)
          refine ⟨l ++ [y], by simp [h1], fun z hz => ?_, fun i hi => ?_⟩
          · rcases List.mem_append.1 hz with hz | hz
            · exact h1' z hz
            · simp at hz; subst hz; exact h3
          · by_cases him : i = m
            · subst him
              exact ⟨y, cs, by rw [List.getElem?_append_right (by omega)]; simp [h1], h4, h5, h6⟩
            · obtain ⟨y', cs', h7, h8⟩ := h2 i (by omega)
              exact ⟨y', cs', by rw [List.getElem?_append_left (by omega)]; exact h7, h8⟩
      exact gen len (Nat.le_refl _)
    obtain ⟨l, hll, hok, hget⟩ := hl
    refine ⟨l, ?_, hok, by simp only [maxLen] at hm; omega⟩
    rcases Nat.eq_zero_or_pos len with h0 | h0
    · subst h0
      have : l = [] := List.eq_nil_of_length_eq_zero hll
      subst this
      exact .lst0 sz _ _
    · have hsp : a.spot = none := by
        obtain ⟨y, cs, _, _, h2, h3⟩ := hget 0 h0
        have h4 := h3 0 hsz
        rw [List.getElem?_eq_getElem (by omega)] at h4
        unfold World.cell? at h4
        split at h4
        · cases hs : a.spot with
          | none => rfl
          | some y => simp [Addr.add, hs] at h4
        · cases h4
      obtain ⟨k0, s0, sp⟩ := a
      dsimp only at hsp
      subst hsp
      have hcell : ∀ (i j : Nat) (g : List AV) (c : AV), (l.map F)[i]? = some g → g[j]? = some c → ∃ v, W.cell? ⟨k0, s0 + i * sz + j, none⟩ = some v ∧ v.oneCell' = true ∧ Rep W [] noP c v := fun i j g c hi hj => by
        simp only [List.getElem?_map] at hi
        obtain ⟨y, hy, rfl⟩ := Option.map_eq_some_iff.1 hi
        have hil := (List.getElem?_eq_some_iff.1 hy).1
        obtain ⟨y', cs, h1, h2, h3, h4⟩ := hget i (by omega)
        rw [hy] at h1
        injection h1 with h1
        subst h1
        have hjl := (List.getElem?_eq_some_iff.1 hj).1
        have hjs : j < sz := by rw [h2.1, h3] at hjl; exact hjl
        have h5 := h4 j hjs
        rw [List.getElem?_eq_getElem (by omega), add_plain, add_plain] at h5
        obtain ⟨h6, h7⟩ := h2.2 j c _ hj (List.getElem?_eq_getElem (by omega))
        exact ⟨_, h5, h6, h7⟩
      have := Rep.lst (w := W) (H := []) (β := noP) sz (l.map F) k0 s0 cap (fun i j => (W.cell? ⟨k0, s0 + i * sz + j, none⟩).getD undef) (by rw [List.length_map]; omega) (fun i g hg => by
          simp only [List.getElem?_map] at hg
          obtain ⟨y, hy, rfl⟩ := Option.map_eq_some_iff.1 hg
          have hil := (List.getElem?_eq_some_iff.1 hy).1
          obtain ⟨y', cs, h1, h2, h3, _⟩ := hget i (by omega)
          rw [hy] at h1
          injection h1 with h1
          subst h1
          exact h2.1.trans h3) (fun i j g c hi hj => by
          obtain ⟨v, h1, h2, _⟩ := hcell i j g c hi hj
          rw [h1]
          exact ⟨rfl, h2, not_wr _ _⟩) (fun i j g c hi hj => by
          obtain ⟨v, h1, _, h3⟩ := hcell i j g c hi hj
          rw [h1]
          exact h3)
      rw [List.length_map, hll] at this
      exact this

theorem repc_strs {P : Program} {W : World} {t e : TypeId} {v : Value} {fuel : Nat} {x : DataW H × List MemPlace} (ht : P.underlying t = some (.slice e)) (he : P.underlying e = some .string) (hc : P.cellsOf e = 1)
    (hf : DataW.trod enc P W 0 (fun _ => true) true fuel t [v] = some x) : ∃ l : List (List UInt8), Rep W [] noP (.lst 1 (strG l)) v ∧ (∀ s ∈ l, s.length ≤ 9223372036854775807) ∧ l.length ≤ 9223372036854775807 :=
  repc_rows (fun s : List UInt8 => [AV.v (.string ⟨s.toArray⟩)]) (fun s => s.length ≤ 9223372036854775807) ht hc (by decide) (fun fuel cs y hl hy => by
    match cs, hl with
    | [v], _ =>
      obtain ⟨s, h1, h2⟩ := repc_string he hy
      refine ⟨s, h2, .cons ?_ h1 (.nil _)⟩
      cases h1
      rfl) hf
theorem rep_strs {P : Program} {W : World} {b0 : Nat} {t e : TypeId} {v : Value} {d : DataW H} {ps : List MemPlace} (ht : P.underlying t = some (.slice e)) (he : P.underlying e = some .string) (hc : P.cellsOf e = 1)
    (hval : Value.okWide P W .any b0 t v) (hd : DataW.Trod enc P W 0 (fun _ => true) true t v d ps) : ∃ l : List (List UInt8), Rep W [] noP (.lst 1 (strG l)) v ∧ (∀ s ∈ l, s.length ≤ 9223372036854775807) ∧ l.length ≤ 9223372036854775807 := by
  obtain ⟨a, len, cap, rfl⟩ := okWide_slice ht hval
  obtain ⟨fuel, hf⟩ := hd
  exact repc_strs ht he hc hf

end Go.Proofs.YtkkhbmpcpilmfaaDoor.VL

/- Cells of boxes that hold slices: an empty one becomes one of a box of its own; one's own is only read from now on. -/
import Derived.Test.YtnoekcdmaaakfaaZCd
set_option linter.unusedVariables false
set_option linter.unusedSimpArgs false
namespace Go.Proofs.Ytnoekcdmaaakfaa.VL
open Go Go.RowKit Go.Lib

/-- A cell says less. -/
theorem Coe.cell {E : Ent} {l : List (Nat × AV)} {H : List Box} {k j : Nat} {bx : Box} {c c' : AV} (hb : H[k]? = some bx) (hj : bx.cells[j]? = some c) (hw : ∀ (w : World) (β : Pl) (x : Value), Inv E.base w H β → Rep w H β c x → Rep w H β c' x) :
    Coe E ⟨l, H⟩ ⟨l, H.set k ⟨bx.cells.set j c', bx.ro, bx.gen, bx.grow⟩⟩ := fun a w ⟨β, hs⟩ => by
  have hI := hs.inv
  dsimp only at hI
  cases hβ : β k with
  | none =>
    have := hI.virt _ _ hb hβ
    simp [this] at hj
  | some p =>
    obtain ⟨k', s⟩ := p
    obtain ⟨q1, q2⟩ := hI.real _ _ _ _ hb hβ
    have hcells := hI.cells _ _ _ _ hb hβ
    obtain ⟨g1, g2⟩ := repl (w' := w) (bx' := ⟨bx.cells.set j c', bx.ro, bx.gen, bx.grow⟩) (k' := k') (s' := s) hI hb (Wor.refl _) (fun _ _ => False) (fun _ _ h => h.elim) (fun _ _ _ _ => rfl)
      ⟨q1, q2⟩ (by rw [List.length_set]; exact hI.ro _ _ hb) (.inr ⟨s, hβ, Nat.le_refl _, Nat.le_refl _, fun h => h, .inr (by rw [List.length_set]; exact Nat.le_refl _)⟩) (Nat.le_refl _) (fun _ => hβ) (fun h => by omega) (fun i c1 hi => by
        by_cases hij : i = j
        · subst hij
          dsimp only at hi
          rw [List.getElem?_set_self (List.getElem?_eq_some_iff.1 hj).1] at hi
          injection hi with hi
          subst hi
          obtain ⟨x, e1, e2, e3⟩ := hcells i _ hj
          exact ⟨x, e1, e2, hw _ _ _ hI e3⟩
        · dsimp only at hi
          rw [List.getElem?_set_ne (Ne.symm hij)] at hi
          exact hcells i _ hi)
    exact ⟨_, ⟨hs.defers, hs.size, g1, hs.stp.trans g2, fun t => (hs.tmps t).stp g2⟩⟩
/-- A box that holds nothing. -/
theorem Coe.newB {E : Ent} {l : List (Nat × AV)} {H : List Box} : Coe E ⟨l, H⟩ ⟨l, H ++ [(⟨[], 0, 0, true⟩ : Box)]⟩ := fun a w ⟨β, hs⟩ => by
  obtain ⟨h1, h2⟩ := newv hs.inv 0 0 rfl
  exact ⟨_, ⟨hs.defers, hs.size, h1, hs.stp.trans h2, fun t => (hs.tmps t).stp h2⟩⟩
theorem Coe.empCell {E : Ent} {l : List (Nat × AV)} {H : List Box} {k j : Nat} {bx : Box} (sz : Nat) (hb : H[k]? = some bx) (hj : bx.cells[j]? = some .emp) :
    Coe E ⟨l, H⟩ ⟨l, (H ++ [(⟨[], 0, 0, true⟩ : Box)]).set k ⟨bx.cells.set j (.sl H.length 0 0 0 sz false), bx.ro, bx.gen, bx.grow⟩⟩ :=
  Coe.trans (σ' := ⟨l, H ++ [(⟨[], 0, 0, true⟩ : Box)]⟩) Coe.newB (Coe.cell (H := H ++ [(⟨[], 0, 0, true⟩ : Box)]) (by rw [List.getElem?_append_left (List.getElem?_eq_some_iff.1 hb).1]; exact hb) hj fun w β x hI hr => by
    cases hr with
    | emp a => exact rep_sl (bx := ⟨[], 0, 0, true⟩) (by rw [List.getElem?_append_right (by omega)]; simp) rfl ⟨a, 0, rfl, Nat.le_refl _, by simp, fun hh => absurd hh (by omega)⟩)
theorem Coe.freezeCell {E : Ent} {l : List (Nat × AV)} {H : List Box} {k j m g n sz : Nat} {bx bm : Box} {G : List (List AV)} (hb : H[k]? = some bx) (hj : bx.cells[j]? = some (.sl m g 0 n sz false)) (hm : H[m]? = some bm) (hg : bm.gen = g) (hkm : k ≠ m) (hfit : n * sz ≤ bm.cells.length) (hG : chunk sz n bm.cells = G) :
    Coe E ⟨l, H⟩ ⟨l, (H.set m { bm with ro := max bm.ro (n * sz) }).set k ⟨bx.cells.set j (.lst sz G), bx.ro, bx.gen, bx.grow⟩⟩ :=
  Coe.trans (σ' := ⟨l, H.set m { bm with ro := max bm.ro (n * sz) }⟩) (fun a w ⟨β, hs⟩ => by
    obtain ⟨h1, h2⟩ := freeze_inv hs.inv hm hfit
    exact ⟨β, ⟨hs.defers, hs.size, h1, hs.stp.trans h2, fun t => (hs.tmps t).stp h2⟩⟩)
    (Coe.cell (by rw [List.getElem?_set_ne (Ne.symm hkm)]; exact hb) hj fun w β x hI hr => by
      have hv := rep_view (bx := { bm with ro := max bm.ro (n * sz) }) hI (List.getElem?_set_self (List.getElem?_eq_some_iff.1 hm).1) hg (by rw [Nat.zero_add]; exact Nat.le_max_right _ _) hr
      rwa [List.drop_zero, hG] at hv)

end Go.Proofs.Ytnoekcdmaaakfaa.VL

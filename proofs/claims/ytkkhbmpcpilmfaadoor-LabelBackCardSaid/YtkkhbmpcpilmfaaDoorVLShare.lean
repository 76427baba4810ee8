/- The value logic, part 5b: a row that is only read is appended to: what was there may be read on. -/
import Derived.Test.YtkkhbmpcpilmfaaDoorVLOps5
set_option linter.unusedVariables false
set_option linter.unusedSimpArgs false
namespace Go.Proofs.YtkkhbmpcpilmfaaDoor.VL
open Go Go.RowKit Go.Lib

def shareB (H : List Box) (b off : Nat) (bx : Box) : List Box := H.set b ⟨bx.cells, bx.ro, bx.gen, false⟩ ++ [⟨bx.cells.drop off, bx.cells.length - off, 0, true⟩]
def shareP (H : List Box) (β : Pl) (b off : Nat) : Pl := fun i => if i = H.length then (β b).map (fun p => (p.1, p.2 + off)) else β i

theorem share_inv {base : Nat} {w : World} {H : List Box} {β : Pl} {b off : Nat} {bx : Box} (hI : Inv base w H β) (hb : H[b]? = some bx) (hro : bx.ro = bx.cells.length) (hgrow : bx.grow = true) (hoff : off ≤ bx.cells.length) :
    Inv base w (shareB H b off bx) (shareP H β b off) ∧ Stp base w H β w (shareB H b off bx) (shareP H β b off) := by
  have hbl : b < H.length := (List.getElem?_eq_some_iff.1 hb).1
  have hβn : shareP H β b off H.length = (β b).map (fun p => (p.1, p.2 + off)) := by simp [shareP]
  have hβo : ∀ i, i < H.length → shareP H β b off i = β i := fun i hi => by simp [shareP, show i ≠ H.length by omega]
  have hget : ∀ i bx1, (shareB H b off bx)[i]? = some bx1 → (i = H.length ∧ bx1 = ⟨bx.cells.drop off, bx.cells.length - off, 0, true⟩) ∨ (i = b ∧ bx1 = ⟨bx.cells, bx.ro, bx.gen, false⟩) ∨ (i < H.length ∧ i ≠ b ∧ H[i]? = some bx1) := by
    intro i bx1 h
    unfold shareB at h
    rcases Nat.lt_trichotomy i H.length with hi | hi | hi
    · rw [List.getElem?_append_left (by simpa using hi)] at h
      by_cases hib : i = b
      · subst hib
        rw [List.getElem?_set_self hbl] at h
        exact .inr (.inl ⟨rfl, (Option.some.inj h).symm⟩)
      · rw [List.getElem?_set_ne (Ne.symm hib)] at h
        exact .inr (.inr ⟨hi, hib, h⟩)
    · subst hi
      rw [List.getElem?_append_right (by simp)] at h
      simp at h
      exact .inl ⟨rfl, h.symm⟩
    · rw [List.getElem?_append_right (by simp; omega)] at h
      simp only [List.length_set] at h
      have : i - H.length ≠ 0 := by omega
      simp [this] at h
  have hmap : ∀ k s, (β b).map (fun p => (p.1, p.2 + off)) = some (k, s) → ∃ s0, β b = some (k, s0) ∧ s = s0 + off := fun k s h => by
    obtain ⟨⟨k0, s0⟩, h1, h2⟩ := Option.map_eq_some_iff.1 h
    injection h2 with h3 h4
    subst h3
    exact ⟨s0, h1, h4.symm⟩
  have hwr : ∀ k x, Wr (shareB H b off bx) (shareP H β b off) k x → Wr H β k x := by
    rintro k x ⟨i, bi, s, h1, h2, h3, h4⟩
    rcases hget i bi h1 with ⟨rfl, rfl⟩ | ⟨rfl, rfl⟩ | ⟨hi, hib, h1⟩
    · rw [hβn] at h2
      obtain ⟨s0, e1, rfl⟩ := hmap k s h2
      exact ⟨b, bx, s0, hb, e1, by dsimp only at h3; omega, .inl hgrow⟩
    · rw [hβo i hbl] at h2
      dsimp only at h3 h4
      rcases h4 with h4 | h4
      · cases h4
      · omega
    · rw [hβo i hi] at h2
      exact ⟨i, bi, s, h1, h2, h3, h4⟩
  have hst : Stp base w H β w (shareB H b off bx) (shareP H β b off) :=
    ⟨rfl, rfl, rfl, Nat.le_refl _, fun _ c _ fr h => ⟨c, fr, h, rfl, fun _ => rfl, fun h => h⟩, fun _ _ h _ => h, fun _ _ _ _ => rfl, fun k x _ h => hwr k x h, fun i bi hi => by
      have hil := (List.getElem?_eq_some_iff.1 hi).1
      by_cases hib : i = b
      · subst hib
        rw [hb] at hi
        obtain rfl := Option.some.inj hi
        exact ⟨⟨bx.cells, bx.ro, bx.gen, false⟩, by unfold shareB; rw [List.getElem?_append_left (by simpa using hbl), List.getElem?_set_self hbl], Nat.le_refl _, fun _ => hβo i hbl⟩
      · exact ⟨bi, by unfold shareB; rw [List.getElem?_append_left (by simpa using hil), List.getElem?_set_ne (Ne.symm hib)]; exact hi, Nat.le_refl _, fun _ => hβo i hil⟩⟩
  refine ⟨⟨hI.bse, fun i bi hi => ?_, fun i bi hi hv => ?_, fun i bi k s hi hl => ?_, fun i bi k s hi hl j c hj => ?_, fun k x h => hI.free k x (hwr k x h), fun i i' bi bi' k s s' x hne hi hi' hl hl' h1 h2 h3 h4 => ?_⟩, hst⟩
  · rcases hget i bi hi with ⟨rfl, rfl⟩ | ⟨rfl, rfl⟩ | ⟨hil, hib, h⟩
    · simp
    · exact hI.ro i bx hb
    · exact hI.ro i bi h
  · rcases hget i bi hi with ⟨rfl, rfl⟩ | ⟨rfl, rfl⟩ | ⟨hil, hib, h⟩
    · rw [hβn] at hv
      have := hI.virt b bx hb (by simpa using hv)
      simp [this]
    · rw [hβo i hbl] at hv
      exact hI.virt i bx hb hv
    · rw [hβo i hil] at hv
      exact hI.virt i bi h hv
  · rcases hget i bi hi with ⟨rfl, rfl⟩ | ⟨rfl, rfl⟩ | ⟨hil, hib, h⟩
    · rw [hβn] at hl
      obtain ⟨s0, e1, rfl⟩ := hmap k s hl
      exact hI.real b bx k s0 hb e1
    · rw [hβo i hbl] at hl
      exact hI.real i bx k s hb hl
    · rw [hβo i hil] at hl
      exact hI.real i bi k s h hl
  · rcases hget i bi hi with ⟨rfl, rfl⟩ | ⟨rfl, rfl⟩ | ⟨hil, hib, h⟩
    · rw [hβn] at hl
      obtain ⟨s0, e1, rfl⟩ := hmap k s hl
      dsimp only at hj
      rw [List.getElem?_drop] at hj
      obtain ⟨x, g1, g0, g2⟩ := hI.cells b bx k s0 hb e1 _ c hj
      exact ⟨x, by rw [Nat.add_assoc]; exact g1, g0, g2.stp hst⟩
    · rw [hβo i hbl] at hl
      obtain ⟨x, g1, g0, g2⟩ := hI.cells i bx k s hb hl j c hj
      exact ⟨x, g1, g0, g2.stp hst⟩
    · rw [hβo i hil] at hl
      obtain ⟨x, g1, g0, g2⟩ := hI.cells i bi k s h hl j c hj
      exact ⟨x, g1, g0, g2.stp hst⟩
  · rcases hget i bi hi with ⟨rfl, rfl⟩ | ⟨rfl, rfl⟩ | ⟨hil, hib, h⟩
    · rw [hβn] at hl
      obtain ⟨s0, e1, rfl⟩ := hmap k s hl
      dsimp only at h1
      rcases hget i' bi' hi' with ⟨rfl, rfl⟩ | ⟨rfl, rfl⟩ | ⟨hil', hib', h'⟩
      · exact hne rfl
      · rw [hβo i' hbl, e1] at hl'
        injection hl' with hl'
        injection hl' with _ hl'
        subst hl'
        dsimp only at h4
        rcases h4 with h4 | h4
        · cases h4
        · omega
      · rw [hβo i' hil'] at hl'
        exact hI.apart b i' bx bi' k s0 s' x (Ne.symm hib') hb h' e1 hl' (by omega) (.inl hgrow) h3 h4
    · dsimp only at h1 h2
      rcases h2 with h2 | h2
      · cases h2
      · omega
    · rw [hβo i hil] at hl
      rcases hget i' bi' hi' with ⟨rfl, rfl⟩ | ⟨rfl, rfl⟩ | ⟨hil', hib', h'⟩
      · rw [hβn] at hl'
        obtain ⟨s0, e1, rfl⟩ := hmap k s' hl'
        exact hI.apart i b bi bx k s s0 x hib h hb hl e1 h1 h2 (by omega) (.inl hgrow)
      · rw [hβo i' hbl] at hl'
        exact hI.apart i i' bi bx k s s' x hne h hb hl hl' h1 h2 h3 (.inl hgrow)
      · rw [hβo i' hil'] at hl'
        exact hI.apart i i' bi bi' k s s' x hne h h' hl hl' h1 h2 h3 h4

def noBox : AV → Bool
  | .lst _ _ => true
  | .emp => true
  | .v _ => true
  | _ => false
/-- Append; behind cells that are only read they may be read on. -/
def aappend' (P : Program) (t : TypeId) (H : List Box) (s x : AV) : Option (AV × List Box) :=
  match s with
  | .sl b g off n sz false => match H[b]? with
    | some bx => if 0 < bx.ro ∧ 0 < n ∧ bx.gen = g ∧ off + n * sz = bx.cells.length ∧ bx.ro = bx.cells.length ∧ bx.grow = true ∧ noBox x = true then
        aappend P t (shareB H b off bx) (.sl H.length 0 0 n sz false) x
      else aappend P t H (.sl b g off n sz false) x
    | none => none
  | s => aappend P t H s x

theorem does_append' {P : Program} {A : Operand → AV} {ρ : Operand → Value} {o : Oper} {base : Nat} {w : World} {H : List Box} {β : Pl} (hI : Inv base w H β) (hA : ∀ x, Rep w H β (A x) (ρ x)) {t t2 : TypeId} {s x : Operand} (ho : o.op = .call { callee := .builtin .append, args := #[s, x], argTypes := #[t, t2] })
    (h2 : notInt P t2 = true) {r : AV} {H' : List Box} (h : aappend' P t H (A s) (A x) = some (r, H')) : Does P ρ o base w H β r H' := by
  unfold aappend' at h
  split at h
  · rename_i b g off n sz hAs
    split at h
    · rename_i bx hb
      split at h
      · rename_i hc
        obtain ⟨_, hn, hg, hend, hro, hgrow, hno⟩ := hc
        obtain ⟨i1, i2⟩ := share_inv (off := off) hI hb hro hgrow (by omega)
        have hs := hA s
        rw [hAs] at hs
        obtain ⟨bx', d1, d2, a, cap, hv, e4, e5, e6⟩ := live_sl (by simp [live, hb, hg]) hs
        have hrep : Rep w (shareB H b off bx) (shareP H β b off) (.sl H.length 0 0 n sz false) (ρ s) := by
          refine rep_sl (bx := ⟨bx.cells.drop off, bx.cells.length - off, 0, true⟩) (by simp [shareB]) rfl ⟨a, cap, hv, e4, e5, fun hh => ?_⟩
          obtain ⟨k, st, c, et, fr, f1, f2, f3, f4⟩ := e6 hh
          exact ⟨k, st + off, c, et, fr, by simp [shareP, f1], by rw [f2]; rfl, f3, by omega⟩
        classical
        have hA' : ∀ y, Rep w (shareB H b off bx) (shareP H β b off) ((fun y => if y = s then .sl H.length 0 0 n sz false else A y) y) (ρ y) := fun y => by
          by_cases hy : y = s
          · subst hy; simpa using hrep
          · simpa [hy] using (hA y).stp i2
        have hxs : x ≠ s := fun e => by
          subst e
          rw [hAs] at hno
          cases hno
        obtain ⟨v, w', β', r1, r2, r3, r4⟩ := does_append (A := fun y => if y = s then .sl H.length 0 0 n sz false else A y) i1 hA' ho h2 (by simpa [hxs] using h)
        exact ⟨v, w', β', r1, r2, i2.trans r3, r4⟩
      · exact does_append hI hA ho h2 (by rw [hAs]; exact h)
    · cases h
  · exact does_append hI hA ho h2 h

end Go.Proofs.YtkkhbmpcpilmfaaDoor.VL

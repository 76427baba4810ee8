/- The value logic, part 5b: a row that is only read is appended to: what was there may be read on. -/
import Derived.Test.YtjkdahpoalnjjaaDoorZCa
import Derived.Stop.BytesEq
import Derived.Lib.UnsafeStr
import Derived.Deep.LoopGhost
set_option linter.unusedVariables false
set_option linter.unusedSimpArgs false
namespace Go.Proofs.YtjkdahpoalnjjaaDoor.VL
open Go Go.RowKit Go.Lib

def shareB (H : List Box) (b off : Nat) (bx : Box) : List Box := H.set b ⟨bx.cells, bx.ro, bx.gen, false⟩ ++ [⟨bx.cells.drop off, bx.cells.length - off, 0, true⟩]
def shareP (H : List Box) (β : Pl) (b off : Nat) : Pl := fun i => if i = H.length then (β b).map (fun p => (p.1, p.2 + off)) else β i

theorem share_inv {base : Nat} {w : World} {H : List Box} {β : Pl} {b off : Nat} {bx : Box} (hI : Inv base w H β) (hb : H[b]? = some bx) (hro : bx.ro = bx.cells.length) (hgrow : bx.grow = true) (hoff : off ≤ bx.cells.length) :
    Inv base w (shareB H b off bx) (shareP H β b off) ∧ Stp base w H β w (shareB H b off bx) (shareP H β b off) := by
  have hbl : b < H.length := (List.getElem?_eq_some_iff.1 hb).1
  have hβn : shareP H β b off H.length = (β b).map (fun p => (p.1, p.2 + off)) := by simp [shareP]
  have hβo : ∀ i, i < H.length → shareP H β b off i = β i := fun i hi => by simp [shareP, show i ≠ H.length by omega]
  have hget : ∀ i bx1, (shareB H b off bx)[i]? = some bx1 → (i = H.length ∧ bx1 = ⟨bx.cells.drop off, bx.cells.length - off, 0, true⟩) ∨ (i = b ∧ bx1 = ⟨bx.cells, bx.ro, bx.gen, false⟩) ∨ (i < H.length ∧ i ≠ b ∧ H[i]? = some bx1) := by
    intro i bx1 h
    unfold shareB at h
    rcases Nat.lt_trichotomy i H.length with hi | hi | hi
    · rw [List.getElem?_append_left (by simpa using hi)] at h
      by_cases hib : i = b
      · subst hib
        rw [List.getElem?_set_self hbl] at h
        exact .inr (.inl ⟨rfl, (Option.some.inj h).symm⟩)
      · rw [List.getElem?_set_ne (Ne.symm hib)] at h
        exact .inr (.inr ⟨hi, hib, h⟩)
    · subst hi
      rw [List.getElem?_append_right (by simp)] at h
      simp at h
      exact .inl ⟨rfl, h.symm⟩
    · rw [List.getElem?_append_right (by simp; omega)] at h
      simp only [List.length_set] at h
      have : i - H.length ≠ 0 := by omega
      simp [this] at h
  have hmap : ∀ k s, (β b).map (fun p => (p.1, p.2 + off)) = some (k, s) → ∃ s0, β b = some (k, s0) ∧ s = s0 + off := fun k s h => by
    obtain ⟨⟨k0, s0⟩, h1, h2⟩ := Option.map_eq_some_iff.1 h
    injection h2 with h3 h4
    subst h3
    exact ⟨s0, h1, h4.symm⟩
  have hwr : ∀ k x, Wr (shareB H b off bx) (shareP H β b off) k x → Wr H β k x := by
    rintro k x ⟨i, bi, s, h1, h2, h3, h4⟩
    rcases hget i bi h1 with ⟨rfl, rfl⟩ | ⟨rfl, rfl⟩ | ⟨hi, hib, h1⟩
    · rw [hβn] at h2
      obtain ⟨s0, e1, rfl⟩ := hmap k s h2
      exact ⟨b, bx, s0, hb, e1, by dsimp only at h3; omega, .inl hgrow⟩
    · rw [hβo i hbl] at h2
      dsimp only at h3 h4
      rcases h4 with h4 | h4
      · cases h4
      · omega
    · rw [hβo i hi] at h2
      exact ⟨i, bi, s, h1, h2, h3, h4⟩
  have hst : Stp base w H β w (shareB H b off bx) (shareP H β b off) :=
    ⟨rfl, rfl, rfl, Nat.le_refl _, fun _ c _ fr h => ⟨c, fr, h, rfl, fun _ => rfl, fun h => h⟩, fun _ _ h _ => h, fun _ _ _ _ => rfl, fun k x _ h => hwr k x h, fun i bi hi => by
      have hil := (List.getElem?_eq_some_iff.1 hi).1
      by_cases hib : i = b
      · subst hib
        rw [hb] at hi
        obtain rfl := Option.some.inj hi
        exact ⟨⟨bx.cells, bx.ro, bx.gen, false⟩, by unfold shareB; rw [List.getElem?_append_left (by simpa using hbl), List.getElem?_set_self hbl], Nat.le_refl _, fun _ => hβo i hbl⟩
      · exact ⟨bi, by unfold shareB; rw [List.getElem?_append_left (by simpa using hil), List.getElem?_set_ne (Ne.symm hib)]; exact hi, Nat.le_refl _, fun _ => hβo i hil⟩⟩
  refine ⟨⟨hI.bse, fun i bi hi => ?_, fun i bi hi hv => ?_, fun i bi k s hi hl => ?_, fun i bi k s hi hl j c hj => ?_, fun k x h => hI.free k x (hwr k x h), fun i i' bi bi' k s s' x hne hi hi' hl hl' h1 h2 h3 h4 => ?_⟩, hst⟩
  · rcases hget i bi hi with ⟨rfl, rfl⟩ | ⟨rfl, rfl⟩ | ⟨hil, hib, h⟩
    · simp
    · exact hI.ro i bx hb
    · exact hI.ro i bi h
  · rcases hget i bi hi with ⟨rfl, rfl⟩ | ⟨rfl, rfl⟩ | ⟨hil, hib, h⟩
    · rw [hβn] at hv
      have := hI.virt b bx hb (by simpa using hv)
      simp [this]
    · rw [hβo i hbl] at hv
      exact hI.virt i bx hb hv
    · rw [hβo i hil] at hv
      exact hI.virt i bi h hv
  · rcases hget i bi hi with ⟨rfl, rfl⟩ | ⟨rfl, rfl⟩ | ⟨hil, hib, h⟩
    · rw [hβn] at hl
      obtain ⟨s0, e1, rfl⟩ := hmap k s hl
      exact hI.real b bx k s0 hb e1
    · rw [hβo i hbl] at hl
      exact hI.real i bx k s hb hl
    · rw [hβo i hil] at hl
      exact hI.real i bi k s h hl
  · rcases hget i bi hi with ⟨rfl, rfl⟩ | ⟨rfl, rfl⟩ | ⟨hil, hib, h⟩
    · rw [hβn] at hl
      obtain ⟨s0, e1, rfl⟩ := hmap k s hl
      dsimp only at hj
      rw [List.getElem?_drop] at hj
      obtain ⟨x, g1, g0, g2⟩ := hI.cells b bx k s0 hb e1 _ c hj
      exact ⟨x, by rw [Nat.add_assoc]; exact g1, g0, g2.stp hst⟩
    · rw [hβo i hbl] at hl
      obtain ⟨x, g1, g0, g2⟩ := hI.cells i bx k s hb hl j c hj
      exact ⟨x, g1, g0, g2.stp hst⟩
    · rw [hβo i hil] at hl
      obtain ⟨x, g1, g0, g2⟩ := hI.cells i bi k s h hl j c hj
      exact ⟨x, g1, g0, g2.stp hst⟩
  · rcases hget i bi hi with ⟨rfl, rfl⟩ | ⟨rfl, rfl⟩ | ⟨hil, hib, h⟩
    · rw [hβn] at hl
      obtain ⟨s0, e1, rfl⟩ := hmap k s hl
      dsimp only at h1
      rcases hget i' bi' hi' with ⟨rfl, rfl⟩ | ⟨rfl, rfl⟩ | ⟨hil', hib', h'⟩
      · exact hne rfl
      · rw [hβo i' hbl, e1] at hl'
        injection hl' with hl'
        injection hl' with _ hl'
        subst hl'
        dsimp only at h4
        rcases h4 with h4 | h4
        · cases h4
        · omega
      · rw [hβo i' hil'] at hl'
        exact hI.apart b i' bx bi' k s0 s' x (Ne.symm hib') hb h' e1 hl' (by omega) (.inl hgrow) h3 h4
    · dsimp only at h1 h2
      rcases h2 with h2 | h2
      · cases h2
      · omega
    · rw [hβo i hil] at hl
      rcases hget i' bi' hi' with ⟨rfl, rfl⟩ | ⟨rfl, rfl⟩ | ⟨hil', hib', h'⟩
      · rw [hβn] at hl'
        obtain ⟨s0, e1, rfl⟩ := hmap k s' hl'
        exact hI.apart i b bi bx k s s0 x hib h hb hl e1 h1 h2 (by omega) (.inl hgrow)
      · rw [hβo i' hbl] at hl'
        exact hI.apart i i' bi bx k s s' x hne h hb hl hl' h1 h2 h3 (.inl hgrow)
      · rw [hβo i' hil'] at hl'
        exact hI.apart i i' bi bi' k s s' x hne h h' hl hl' h1 h2 h3 h4

def noBox : AV → Bool
  | .lst _ _ => true
  | .emp => true
  | .v _ => true
  | _ => false
/-- Append; behind cells that are only read they may be read on. -/
def aappend' (P : Program) (t : TypeId) (H : List Box) (s x : AV) : Option (AV × List Box) :=
  match s with
  | .sl b g off n sz false => match H[b]? with
    | some bx => if 0 < bx.ro ∧ 0 < n ∧ bx.gen = g ∧ off + n * sz = bx.cells.length ∧ bx.ro = bx.cells.length ∧ bx.grow = true ∧ noBox x = true then
        aappend P t (shareB H b off bx) (.sl H.length 0 0 n sz false) x
      else aappend P t H (.sl b g off n sz false) x
    | none => none
  | s => aappend P t H s x

theorem does_append' {P : Program} {A : Operand → AV} {ρ : Operand → Value} {o : Oper} {base : Nat} {w : World} {H : List Box} {β : Pl} (hI : Inv base w H β) (hA : ∀ x, Rep w H β (A x) (ρ x)) {t t2 : TypeId} {s x : Operand} (ho : o.op = .call { callee := .builtin .append, args := #[s, x], argTypes := #[t, t2] })
    (h2 : notInt P t2 = true) {r : AV} {H' : List Box} (h : aappend' P t H (A s) (A x) = some (r, H')) : Does P ρ o base w H β r H' := by
  unfold aappend' at h
  split at h
  · rename_i b g off n sz hAs
    split at h
    · rename_i bx hb
      split at h
      · rename_i hc
        obtain ⟨_, hn, hg, hend, hro, hgrow, hno⟩ := hc
        obtain ⟨i1, i2⟩ := share_inv (off := off) hI hb hro hgrow (by omega)
        have hs := hA s
        rw [hAs] at hs
        obtain ⟨bx', d1, d2, a, cap, hv, e4, e5, e6⟩ := live_sl (by simp [live, hb, hg]) hs
        have hrep : Rep w (shareB H b off bx) (shareP H β b off) (.sl H.length 0 0 n sz false) (ρ s) := by
          refine rep_sl (bx := ⟨bx.cells.drop off, bx.cells.length - off, 0, true⟩) (by simp [shareB]) rfl ⟨a, cap, hv, e4, e5, fun hh => ?_⟩
          obtain ⟨k, st, c, et, fr, f1, f2, f3, f4⟩ := e6 hh
          exact ⟨k, st + off, c, et, fr, by simp [shareP, f1], by rw [f2]; rfl, f3, by omega⟩
        classical
        have hA' : ∀ y, Rep w (shareB H b off bx) (shareP H β b off) ((fun y => if y = s then .sl H.length 0 0 n sz false else A y) y) (ρ y) := fun y => by
          by_cases hy : y = s
          · subst hy; simpa using hrep
          · simpa [hy] using (hA y).stp i2
        have hxs : x ≠ s := fun e => by
          subst e
          rw [hAs] at hno
          cases hno
        obtain ⟨v, w', β', r1, r2, r3, r4⟩ := does_append (A := fun y => if y = s then .sl H.length 0 0 n sz false else A y) i1 hA' ho h2 (by simpa [hxs] using h)
        exact ⟨v, w', β', r1, r2, i2.trans r3, r4⟩
      · exact does_append hI hA ho h2 (by rw [hAs]; exact h)
    · cases h
  · exact does_append hI hA ho h2 h

end Go.Proofs.YtjkdahpoalnjjaaDoor.VL

/- The value logic, part 6b: cells that are only read from now on; bytes of one's own as a string. -/
set_option linter.unusedVariables false
set_option linter.unusedSimpArgs false
namespace Go.Proofs.YtjkdahpoalnjjaaDoor.VL
open Go Go.RowKit Go.Lib

/-- A box whose first cells are only read from now on. -/
theorem freeze_inv {base : Nat} {w : World} {H : List Box} {β : Pl} {b m : Nat} {bx : Box} (hI : Inv base w H β) (hb : H[b]? = some bx) (hm : m ≤ bx.cells.length) :
    Inv base w (H.set b { bx with ro := max bx.ro m }) β ∧ Stp base w H β w (H.set b { bx with ro := max bx.ro m }) β := by
  have hbl : b < H.length := (List.getElem?_eq_some_iff.1 hb).1
  have hget : ∀ i bx1, (H.set b { bx with ro := max bx.ro m })[i]? = some bx1 → (i = b ∧ bx1 = { bx with ro := max bx.ro m }) ∨ (i ≠ b ∧ H[i]? = some bx1) := by
    intro i bx1 h
    by_cases hi : i = b
    · subst hi
      rw [List.getElem?_set_self hbl] at h
      exact .inl ⟨rfl, (Option.some.inj h).symm⟩
    · rw [List.getElem?_set_ne (Ne.symm hi)] at h
      exact .inr ⟨hi, h⟩
  have hwr : ∀ k x, Wr (H.set b { bx with ro := max bx.ro m }) β k x → Wr H β k x := by
    rintro k x ⟨i, bi, s, h1, h2, h3, h4⟩
    rcases hget i bi h1 with ⟨rfl, rfl⟩ | ⟨hi, h1⟩
    · exact ⟨i, bx, s, hb, h2, by dsimp only at h3; have := Nat.le_max_left bx.ro m; omega, h4⟩
    · exact ⟨i, bi, s, h1, h2, h3, h4⟩
  have hst : Stp base w H β w (H.set b { bx with ro := max bx.ro m }) β :=
    ⟨rfl, rfl, rfl, Nat.le_refl _, fun _ c _ fr h => ⟨c, fr, h, rfl, fun _ => rfl, fun h => h⟩, fun _ _ h _ => h, fun _ _ _ _ => rfl, fun k x _ h => hwr k x h, fun i bi hi => by
      by_cases hib : i = b
      · subst hib
        rw [hb] at hi
        obtain rfl := Option.some.inj hi
        exact ⟨_, List.getElem?_set_self hbl, Nat.le_refl _, fun _ => rfl⟩
      · exact ⟨bi, by rw [List.getElem?_set_ne (Ne.symm hib)]; exact hi, Nat.le_refl _, fun _ => rfl⟩⟩
  refine ⟨⟨hI.bse, fun i bi hi => ?_, fun i bi hi hv' => ?_, fun i bi k s hi hl => ?_, fun i bi k s hi hl j c hj => ?_, fun k x h => hI.free k x (hwr k x h), fun i i' bi bi' k s s' x hne hi hi' hl hl' h1 h2 h3 => ?_⟩, hst⟩
  · rcases hget i bi hi with ⟨rfl, rfl⟩ | ⟨_, h⟩
    · exact Nat.max_le.2 ⟨hI.ro _ bx hb, hm⟩
    · exact hI.ro i bi h
  · rcases hget i bi hi with ⟨rfl, rfl⟩ | ⟨hi', h⟩
    · exact hI.virt _ bx hb hv'
    · exact hI.virt i bi h hv'
  · rcases hget i bi hi with ⟨rfl, rfl⟩ | ⟨hi', h⟩
    · exact hI.real _ bx k s hb hl
    · exact hI.real i bi k s h hl
  · rcases hget i bi hi with ⟨rfl, rfl⟩ | ⟨hi', h⟩
    · obtain ⟨x, g1, g0, g2⟩ := hI.cells _ bx k s hb hl j c hj
      exact ⟨x, g1, g0, g2.stp hst⟩
    · obtain ⟨x, g1, g0, g2⟩ := hI.cells i bi k s h hl j c hj
      exact ⟨x, g1, g0, g2.stp hst⟩
  · have hle := Nat.le_max_left bx.ro m
    rcases hget i bi hi with ⟨rfl, rfl⟩ | ⟨hx, h⟩
    · rcases hget i' bi' hi' with ⟨rfl, rfl⟩ | ⟨hx', h'⟩
      · exact absurd rfl hne
      · exact hI.apart i i' bx bi' k s s' x hne hb h' hl hl' (by dsimp only at h1; omega) h2 h3
    · rcases hget i' bi' hi' with ⟨rfl, rfl⟩ | ⟨hx', h'⟩
      · exact hI.apart i i' bi bx k s s' x hne h hb hl hl' h1 h2 h3
      · exact hI.apart i i' bi bi' k s s' x hne h h' hl hl' h1 h2 h3

/-- What a slice over a box's read-only cells reads as. -/
theorem rep_view {base : Nat} {w : World} {H : List Box} {β : Pl} {b g off n sz : Nat} {full : Bool} {v : Value} {bx : Box} (hI : Inv base w H β) (hb : H[b]? = some bx) (hg : bx.gen = g) (hro : off + n * sz ≤ bx.ro) (hr : Rep w H β (.sl b g off n sz full) v) :
    Rep w H β (.lst sz (chunk sz n (bx.cells.drop off))) v := by
  obtain ⟨bx', e1, e2, a, cap, rfl, e4, e5, e6⟩ := live_sl (by simp [live, hb, hg]) hr
  rw [hb] at e1
  obtain rfl := Option.some.inj e1
  have hrl := hI.ro b bx hb
  by_cases hn : n = 0
  · subst hn
    exact .lst0 _ _ _
  · obtain ⟨k, s, c, et, fr, f1, f2, f3, f4⟩ := e6 (by omega)
    subst f2
    have hlen := chunk_length sz n (bx.cells.drop off)
    have hcell : ∀ (i j : Nat) (g : List AV) (c : AV), (chunk sz n (bx.cells.drop off))[i]? = some g → g[j]? = some c → i * sz + j < n * sz ∧ bx.cells[off + (i * sz + j)]? = some c := fun i j g c hi hj => by
      obtain ⟨h1, rfl⟩ := chunk_get _ _ _ _ _ hi
      have hjl := (List.getElem?_eq_some_iff.1 hj).1
      simp only [List.length_take] at hjl
      have : (i + 1) * sz ≤ n * sz := Nat.mul_le_mul_right _ h1
      rw [Nat.add_mul] at this
      rw [List.getElem?_take_of_lt (by omega), List.getElem?_drop, List.getElem?_drop] at hj
      exact ⟨by omega, by rw [← hj]⟩
    have := Rep.lst (w := w) (H := H) (β := β) sz (chunk sz n (bx.cells.drop off)) k (s + off) cap (fun i j => (w.cell? ⟨k, s + off + i * sz + j, none⟩).getD undef) (by rw [hlen]; exact e4)
      (fun i g hi => by
        obtain ⟨h1, rfl⟩ := chunk_get _ _ _ _ _ hi
        simp only [List.length_take, List.length_drop]
        have : (i + 1) * sz ≤ n * sz := Nat.mul_le_mul_right _ h1
        rw [Nat.add_mul] at this
        omega)
      (fun i j g c hi hj => by
        obtain ⟨h1, h2⟩ := hcell i j g c hi hj
        obtain ⟨x, g1, g2, _⟩ := hI.cells b bx k s hb f1 _ c h2
        have e : s + off + i * sz + j = s + (off + (i * sz + j)) := by omega
        rw [e, g1]
        refine ⟨rfl, g2, ?_⟩
        rintro ⟨i', bi, s', a1, a2, a3, a4⟩
        by_cases hib : i' = b
        · subst hib
          rw [hb] at a1
          obtain rfl := Option.some.inj a1
          rw [f1] at a2
          injection a2 with a2
          injection a2 with a5 a6
          omega
        · exact hI.apart i' b bi bx k s' s _ hib a1 hb a2 f1 a3 a4 (by omega) (.inr (by omega)))
      (fun i j g c hi hj => by
        obtain ⟨h1, h2⟩ := hcell i j g c hi hj
        obtain ⟨x, g1, _, g3⟩ := hI.cells b bx k s hb f1 _ c h2
        have e : s + off + i * sz + j = s + (off + (i * sz + j)) := by omega
        rw [e, g1]
        exact g3)
    rwa [hlen] at this


section ops
variable {P : Program} {ρ : Operand → Value} {A : Operand → AV} {o : Oper} {base : Nat} {w : World} {H : List Box} {β : Pl}
theorem run_conv_lst {src dst e : TypeId} {x : Operand} {gs : List (List AV)} {bs : List UInt8} (hx : Rep w H β (.lst 1 gs) (ρ x)) (ho : o.op = .convert src dst x) (hs : P.underlying src = some (.slice e)) (hd : P.underlying dst = some .string) (he : P.underlying e = some (.int .u8))
    (h1 : bytesOf gs = some bs) : (execOp ρ o).run P w = .ok (.value (.string ⟨bs.toArray⟩)) w := by
  obtain ⟨xs, rfl, rfl⟩ := bytesOf_get gs bs h1
  generalize hv : ρ x = v at hx
  generalize hgs : xs.map (fun n => [AV.v (.int .u8 n)]) = gs at hx
  cases hx with
  | lst0 _ a cap =>
    obtain rfl : xs = [] := by cases xs with | nil => rfl | cons _ _ => simp at hgs
    have : (convert src dst (.slice a 0 cap)).run P w = .ok (.string ⟨#[]⟩) w := by
      rw [run_convert_bytes_string w src dst e _ 0 cap hs he hd]
      cases a with
      | none => simp [Conv.bytesToString]; rfl
      | some a => simp [Conv.bytesToString, loadCells, loadCellsFrom]; rfl
    simp only [execOp, ho, hv, Sem.run_bind, this, Result.andThen_ok, Sem.run_pure]
    rfl
  | lst _ _ k s cap y hn hg hc hr =>
    subst hgs
    have hcell : ∀ i, i < xs.length → w.cell? ⟨k, s + i, none⟩ = some (.int .u8 (xs.getD i 0)) := fun i hi => by
      have hgi : (xs.map fun n => [AV.v (.int .u8 n)])[i]? = some [AV.v (.int .u8 xs[i])] := by simp [hi]
      have h1 := (hc i 0 _ _ hgi rfl).1
      have h2 := hr i 0 _ _ hgi rfl
      generalize hy : y i 0 = z at h2 h1
      cases h2
      simpa [hi] using h1
    have := run_convert_bytes_arg (P := P) w src e hs he k s (xs.map fun n => [AV.v (.int .u8 n)]).length cap xs (by simp) (fun i hi => hcell i (by simpa using hi)) dst hd
    simp only [execOp, ho, hv, Sem.run_bind, this, Result.andThen_ok, Sem.run_pure]
    rfl

/-- Conversions; bytes of one's own too. -/
def aconvH (P : Program) (H : List Box) (src dst : TypeId) (x : AV) : Option AV :=
  match x with
  | .sl b g off n 1 _ => match P.underlying src, P.underlying dst with
    | some (.slice e), some .string => match P.underlying e with
      | some (.int .u8) => match H[b]? with
        | some bx => if bx.gen = g ∧ off + n ≤ bx.cells.length then (bytesOf (chunk 1 n (bx.cells.drop off))).map fun bs => .v (.string ⟨bs.toArray⟩) else none
        | none => none
      | _ => none
    | _, _ => none
  | x => aconv P src dst x
theorem does_convertH (hI : Inv base w H β) (hA : ∀ x, Rep w H β (A x) (ρ x)) {src dst : TypeId} {x : Operand} (ho : o.op = .convert src dst x) {r : AV} (h : aconvH P H src dst (A x) = some r) : Does P ρ o base w H β r H := by
  have hx := hA x
  unfold aconvH at h
  split at h
  · rename_i b g off n full hAx
    rw [hAx] at hx
    split at h
    · rename_i e hs hd
      split at h
      · rename_i he
        split at h
        · rename_i bx hb
          split at h
          · rename_i hc
            obtain ⟨hg, hfit⟩ := hc
            obtain ⟨bs, h1, rfl⟩ := Option.map_eq_some_iff.1 h
            obtain ⟨i1, i2⟩ := freeze_inv (m := off + n * 1) hI hb (by omega)
            have hbl : b < H.length := (List.getElem?_eq_some_iff.1 hb).1
            have hv := rep_view (bx := { bx with ro := max bx.ro (off + n * 1) }) i1 (List.getElem?_set_self hbl) hg (Nat.le_max_right _ _) (hx.stp i2)
            exact .same hI (run_conv_lst hv ho hs hd he h1) (.v _)
          · cases h
        · cases h
      · cases h
    · cases h
  · exact does_convert hI hA ho h
end ops

end Go.Proofs.YtjkdahpoalnjjaaDoor.VL

/- The value logic: what lies behind a slice of one's own is forgotten before one appends to it; capacities that are known. -/
set_option linter.unusedVariables false
set_option linter.unusedSimpArgs false
namespace Go.Proofs.YtjkdahpoalnjjaaDoor.VL
open Go Go.RowKit Go.Lib

/-- The cells of a box from the m-th on are forgotten. -/
theorem trim_inv {base : Nat} {w : World} {H : List Box} {β : Pl} {b m : Nat} {bx : Box} (hI : Inv base w H β) (hb : H[b]? = some bx) (hgrow : bx.grow = true) (hm : bx.ro ≤ m) (hmc : m ≤ bx.cells.length) :
    Inv base w (H.set b ⟨bx.cells.take m, bx.ro, bx.gen, true⟩) β ∧ Stp base w H β w (H.set b ⟨bx.cells.take m, bx.ro, bx.gen, true⟩) β := by
  have hbl : b < H.length := (List.getElem?_eq_some_iff.1 hb).1
  have hget : ∀ i bx1, (H.set b ⟨bx.cells.take m, bx.ro, bx.gen, true⟩)[i]? = some bx1 → (i = b ∧ bx1 = ⟨bx.cells.take m, bx.ro, bx.gen, true⟩) ∨ (i ≠ b ∧ H[i]? = some bx1) := by
    intro i bx1 h
    by_cases hi : i = b
    · subst hi
      rw [List.getElem?_set_self hbl] at h
      exact .inl ⟨rfl, (Option.some.inj h).symm⟩
    · rw [List.getElem?_set_ne (Ne.symm hi)] at h
      exact .inr ⟨hi, h⟩
  have hwr : ∀ k x, Wr (H.set b ⟨bx.cells.take m, bx.ro, bx.gen, true⟩) β k x → Wr H β k x := by
    rintro k x ⟨i, bi, s, h1, h2, h3, h4⟩
    rcases hget i bi h1 with ⟨rfl, rfl⟩ | ⟨hi, h1⟩
    · exact ⟨i, bx, s, hb, h2, h3, .inl hgrow⟩
    · exact ⟨i, bi, s, h1, h2, h3, h4⟩
  have hst : Stp base w H β w (H.set b ⟨bx.cells.take m, bx.ro, bx.gen, true⟩) β :=
    ⟨rfl, rfl, rfl, Nat.le_refl _, fun _ c _ fr h => ⟨c, fr, h, rfl, fun _ => rfl, fun h => h⟩, fun _ _ h _ => h, fun _ _ _ _ => rfl, fun k x _ h => hwr k x h, fun i bi hi => by
      by_cases hib : i = b
      · subst hib
        rw [hb] at hi
        obtain rfl := Option.some.inj hi
        exact ⟨_, List.getElem?_set_self hbl, Nat.le_refl _, fun _ => rfl⟩
      · exact ⟨bi, by rw [List.getElem?_set_ne (Ne.symm hib)]; exact hi, Nat.le_refl _, fun _ => rfl⟩⟩
  refine ⟨⟨hI.bse, fun i bi hi => ?_, fun i bi hi hv' => ?_, fun i bi k s hi hl => ?_, fun i bi k s hi hl j c hj => ?_, fun k x h => hI.free k x (hwr k x h), fun i i' bi bi' k s s' x hne hi hi' hl hl' h1 h2 h3 => ?_⟩, hst⟩
  · rcases hget i bi hi with ⟨rfl, rfl⟩ | ⟨_, h⟩
    · simp only [List.length_take]; omega
    · exact hI.ro i bi h
  · rcases hget i bi hi with ⟨rfl, rfl⟩ | ⟨hi', h⟩
    · simp [hI.virt _ bx hb hv']
    · exact hI.virt i bi h hv'
  · rcases hget i bi hi with ⟨rfl, rfl⟩ | ⟨hi', h⟩
    · exact hI.real _ bx k s hb hl
    · exact hI.real i bi k s h hl
  · rcases hget i bi hi with ⟨rfl, rfl⟩ | ⟨hi', h⟩
    · dsimp only at hj
      have hj' : bx.cells[j]? = some c := by
        rw [List.getElem?_take] at hj
        split at hj
        · exact hj
        · cases hj
      obtain ⟨x, g1, g0, g2⟩ := hI.cells _ bx k s hb hl j c hj'
      exact ⟨x, g1, g0, g2.stp hst⟩
    · obtain ⟨x, g1, g0, g2⟩ := hI.cells i bi k s h hl j c hj
      exact ⟨x, g1, g0, g2.stp hst⟩
  · rcases hget i bi hi with ⟨rfl, rfl⟩ | ⟨hx, h⟩
    · rcases hget i' bi' hi' with ⟨rfl, rfl⟩ | ⟨hx', h'⟩
      · exact absurd rfl hne
      · exact hI.apart i i' bx bi' k s s' x hne hb h' hl hl' h1 (.inl hgrow) h3
    · rcases hget i' bi' hi' with ⟨rfl, rfl⟩ | ⟨hx', h'⟩
      · exact fun _ => hI.apart i i' bi bx k s s' x hne h hb hl hl' h1 h2 h3 (.inl hgrow)
      · exact hI.apart i i' bi bi' k s s' x hne h h' hl hl' h1 h2 h3

/-- Append; what lies behind the slice is forgotten. -/
def aappendT (P : Program) (t : TypeId) (H : List Box) (s x : AV) : Option (AV × List Box) :=
  match s with
  | .sl b g off n sz false => match H[b]? with
    | some bx => if off + n * sz < bx.cells.length ∧ bx.ro ≤ off + n * sz ∧ bx.grow = true then
        aappend' P t (H.set b ⟨bx.cells.take (off + n * sz), bx.ro, bx.gen, true⟩) (.sl b g off n sz false) x
      else aappend' P t H (.sl b g off n sz false) x
    | none => none
  | s => aappend' P t H s x

theorem does_appendT {P : Program} {A : Operand → AV} {ρ : Operand → Value} {o : Oper} {base : Nat} {w : World} {H : List Box} {β : Pl} (hI : Inv base w H β) (hA : ∀ x, Rep w H β (A x) (ρ x)) {t t2 : TypeId} {s x : Operand} (ho : o.op = .call { callee := .builtin .append, args := #[s, x], argTypes := #[t, t2] })
    (h2 : notInt P t2 = true) {r : AV} {H' : List Box} (h : aappendT P t H (A s) (A x) = some (r, H')) : Does P ρ o base w H β r H' := by
  unfold aappendT at h
  split at h
  · rename_i b g off n sz hAs
    split at h
    · rename_i bx hb
      split at h
      · rename_i hc
        obtain ⟨i1, i2⟩ := trim_inv hI hb hc.2.2 hc.2.1 (by omega)
        have hA' : ∀ x, Rep w (H.set b ⟨bx.cells.take (off + n * sz), bx.ro, bx.gen, true⟩) β (A x) (ρ x) := fun x => (hA x).stp i2
        obtain ⟨v, w', β', r1, r2, r3, r4⟩ := does_append' i1 hA' ho h2 (by rw [hAs]; exact h)
        exact ⟨v, w', β', r1, r2, i2.trans r3, r4⟩
      · exact does_append' hI hA ho h2 (by rw [hAs]; exact h)
    · cases h
  · exact does_append' hI hA ho h2 h

/-- How much room there is, where that is known. -/
def acap (P : Program) (t : TypeId) (H : List Box) (x : AV) : Option AV :=
  match P.underlying t, x with
  | some (.slice _), .emp => some (.v (.int .i64 0))
  | some (.slice _), .sl b g _ n _ true => if live H b g then some (.v (.int .i64 n)) else none
  | _, _ => none
theorem does_cap {P : Program} {A : Operand → AV} {ρ : Operand → Value} {o : Oper} {base : Nat} {w : World} {H : List Box} {β : Pl} (hI : Inv base w H β) (hA : ∀ x, Rep w H β (A x) (ρ x)) {t : TypeId} {x : Operand} (ho : o.op = .call { callee := .builtin .cap, args := #[x], argTypes := #[t] }) {r : AV} (h : acap P t H (A x) = some r) : Does P ρ o base w H β r H := by
  have hx := hA x
  have key : ∀ n : Nat, (Builtin.cap_ #[t] o.type #[ρ x]).run P w = .ok (goInt n) w → Does P ρ o base w H β (.v (.int .i64 n)) H := fun n hn =>
    .same hI (v := .int .i64 n) (by simp [execOp, ho, resolve, invoke, builtin, hn]; rfl) (.v _)
  unfold acap at h
  split at h
  · rename_i e hu hAx
    rw [hAx] at hx
    injection h with h
    subst h
    generalize hv : ρ x = v at hx
    cases hx with
    | emp a => exact key 0 (by rw [hv]; simp [Builtin.cap_, run_underlying hu])
  · rename_i e b g off n sz hu hAx
    rw [hAx] at hx
    split at h
    · rename_i hl
      injection h with h
      subst h
      obtain ⟨bx, e1, e2, a, cap, hv, _, hf, _⟩ := live_sl hl hx
      have := hf rfl
      subst this
      exact key _ (by rw [hv]; simp [Builtin.cap_, run_underlying hu])
    · cases h
  · cases h

/-! ### Append of so many zeros to an empty slice (the zeros aren't remembered) -/
def isInt (P : Program) (t : TypeId) : Bool := match P.underlying t with | some (.int _) => true | _ => false
theorem run_append_zeros {P : Program} {w : World} {t t2 ty e : TypeId} {i : TypeInfo} {z : Value} (ht : P.underlying t = some (.slice e)) (h2 : isInt P t2 = true) (hi : P.info? e = some i) (hz : i.zero = some z)
    {a : Option Addr} {m : Nat} {k : IntKind} (h0 : 0 < m) (hs : 0 < i.size) (h63 : (m : Int) ≤ 9223372036854775807) (hb : (m : Int) * (i.bytes : Int) ≤ 281474976710656) (hfit : Builtin.nextslicecap m 0 * i.bytes ≤ 281474976710656) :
    (Builtin.append_ #[t, t2] ty #[.slice a 0 0, .int k m]).run P w =
      .ok (.slice (some ⟨w.heap.size, 0, none⟩) m (grownCap w m 0 e))
        (w.drew.alloc (.cells (Builtin.zeroCells z.cells m ++ Builtin.zeroCells z.cells (grownCap w m 0 e - m)) e)) := by
  have h48' : ¬ (281474976710656 < Builtin.nextslicecap m 0 * i.bytes) := by omega
  have hw : IntKind.i64.wrap (m : Int) = (m : Int) := by simp [IntKind.wrap, IntKind.bits, IntKind.signed]; omega
  have hn0 : ¬ ((m : Int) < 0) := by omega
  have hb' : ¬ (281474976710656 < (m : Int) * (i.bytes : Int)) := by omega
  have hm0 : ¬ m = 0 := by omega
  have hms : ¬ m * i.size = 0 := Nat.ne_of_gt (Nat.mul_pos h0 hs)
  have h63' : ¬ (9223372036854775807 < (m : Int)) := by omega
  have hs0 : ¬ i.size = 0 := by omega
  unfold isInt at h2
  split at h2
  · rename_i e' hd2
    cases a <;> simp [Builtin.append_, run_underlying ht, run_underlying hd2, sizeOf, typeInfo, zeroValue, hi, hz, asInt, asIntOf, hw, hn0, hb', hm0, hms, hs0, h63', h48', Question.forced, newRow, grownCap, Builtin.firstCells, Go.loadCells, Go.loadCellsFrom]
  · cases h2

def aappendZ (P : Program) (t : TypeId) (H : List Box) (s x : AV) : Option (AV × List Box) :=
  match elemTy P t, s, x with
  | some e, .emp, .v (.int _ n) => match zeroCs P e with
    | some z => if 0 < n ∧ n * P.bytesOf e ≤ 140737488355328 ∧ n ≤ 140737488355328 ∧ 0 < P.cellsOf e ∧ z.length = P.cellsOf e then
        some (.sl H.length 0 0 n.toNat (P.cellsOf e) false, H ++ [⟨[], 0, 0, true⟩]) else none
    | none => none
  | _, _, _ => none
theorem does_appendZ {P : Program} {A : Operand → AV} {ρ : Operand → Value} {o : Oper} {base : Nat} {w : World} {H : List Box} {β : Pl} (hI : Inv base w H β) (hA : ∀ x, Rep w H β (A x) (ρ x)) {t t2 : TypeId} {s x : Operand} (ho : o.op = .call { callee := .builtin .append, args := #[s, x], argTypes := #[t, t2] })
    (h2 : isInt P t2 = true) {r : AV} {H' : List Box} (h : aappendZ P t H (A s) (A x) = some (r, H')) : Does P ρ o base w H β r H' := by
  have hs := hA s
  have hx := hA x
  unfold aappendZ at h
  split at h
  · rename_i e ik n he hAs hAx
    obtain ⟨hu, d, hd⟩ := elemTy_spec he
    rw [hAs] at hs
    rw [hAx] at hx
    split at h
    · rename_i z hz
      split at h
      · rename_i hcond
        obtain ⟨h0, hbd, hn47, hc0, hzl⟩ := hcond
        injection h with h
        injection h with e1 e2
        subst e1; subst e2
        generalize hvs : ρ s = vs at hs
        generalize hvx : ρ x = vx at hx
        cases hs with
        | emp a =>
        cases hx
        obtain ⟨i0, zv, hi, hiz, hsz, hby, z2, z3⟩ := zero_full hz
        obtain ⟨m, rfl⟩ := Int.eq_ofNat_of_zero_le (Int.le_of_lt h0)
        have hzsz : zv.cells.size = P.cellsOf e := by
          have := congrArg List.length z2
          simp at this
          omega
        have hbd' : m * P.bytesOf e ≤ 140737488355328 := by
          have : ((m * P.bytesOf e : Nat) : Int) ≤ 140737488355328 := by rw [Int.natCast_mul]; exact hbd
          omega
        have hrun := run_append_zeros (P := P) (w := w) (ty := o.type) (a := a) (k := ik) (m := m) hu h2 hi hiz (by omega) (by omega) (by omega) (by rw [hby]; rw [← Int.natCast_mul]; omega) (growslice_fits (by omega) (by rw [hby]; exact hbd'))
        have hgc := grownCap_le w m 0 e
        obtain ⟨g, hg⟩ : ∃ g, g = grownCap w m 0 e := ⟨_, rfl⟩
        rw [← hg] at hrun hgc
        obtain ⟨C, hC⟩ : ∃ C, C = Builtin.zeroCells zv.cells m ++ Builtin.zeroCells zv.cells (g - m) := ⟨_, rfl⟩
        rw [← hC] at hrun
        have hCsz : C.size = g * P.cellsOf e := by
          rw [hC, Array.size_append, zeroCells_size, zeroCells_size, hzsz, ← Nat.add_mul]
          congr 1; omega
        obtain ⟨β', g1, g2, g3⟩ := grown_box (e := e) hI [] [] C.toList (fun j c hj => by simp at hj) rfl C rfl
        refine ⟨.slice (some ⟨w.heap.size, 0, none⟩) m g, _, β', .inl ?_, g1, g2, rep_sl (bx := ⟨[], 0, 0, true⟩) (by simp) rfl ?_⟩
        · simp [execOp, ho, hvs, hvx, resolve, invoke, builtin, hrun]
        · rw [g3]
          exact sl_new w C e m g (P.cellsOf e) hgc (by rw [hCsz]; exact Nat.le_refl _)
      · cases h
    · cases h
  · cases h

end Go.Proofs.YtjkdahpoalnjjaaDoor.VL

/- The value logic: values of several cells compared; rows cleared. -/
set_option linter.unusedVariables false
set_option linter.unusedSimpArgs false
namespace Go.Proofs.YtjkdahpoalnjjaaDoor.VL
open Go Go.RowKit Go.Lib

/-! ### Comparing -/
/-- The bytes of cells of one byte each. -/
def bytesOfC : List AV → Option (List UInt8)
  | [] => some []
  | .v (.int .u8 n) :: r => if 0 ≤ n ∧ n ≤ 255 then (bytesOfC r).map (UInt8.ofNat n.toNat :: ·) else none
  | _ => none
theorem bytesOfC_spec : ∀ (cs : List AV) (bs : List UInt8), bytesOfC cs = some bs → cs = bs.map fun b => AV.v (.int .u8 b.toNat) := by
  intro cs
  induction cs with
  | nil => intro bs h; simp [bytesOfC] at h; subst h; rfl
  | cons c r ih =>
    intro bs h
    unfold bytesOfC at h
    split at h
    · rename_i heq; cases heq
    · rename_i n r' heq
      injection heq with e1 e2
      subst e1; subst e2
      split at h
      · rename_i hn
        obtain ⟨bs', h1, rfl⟩ := Option.map_eq_some_iff.1 h
        have e : ((UInt8.ofNat n.toNat).toNat : Int) = n := by
          rw [UInt8.toNat_ofNat']
          omega
        rw [List.map_cons, ← ih _ h1, e]
      · cases h
    · cases h
/-- Comparable at no risk. -/
def eqOk (P : Program) (t : TypeId) : Bool := !P.eqGuardType P.depth t
def tagOf (P : Program) (f : Field) (o : Nat) : Option Nat :=
  if f.name ≠ "_" ∧ f.offset = o then
    match P.underlying f.type with
    | some (.int _) => some 0
    | some .string => some 1
    | some .bool => some 2
    | _ => none
  else none
def tagsFrom (P : Program) : List Field → Nat → Option (List Nat)
  | [], _ => some []
  | f :: fs, o => match tagOf P f o, tagsFrom P fs (o + 1) with
    | some a, some as => some (a :: as)
    | _, _ => none
/-- What the fields of a flat struct are. -/
def flatTags (P : Program) (t : TypeId) : Option (List Nat) :=
  if eqOk P t = true ∧ P.stoodInHeld t = false then
    match P.underlying t with
    | some (.struct fs) => tagsFrom P fs.toList 0
    | _ => none
  else none
def eqVals : List Nat → List AV → List AV → Option Bool
  | [], [], [] => some true
  | 0 :: ts, .v (.int k a) :: xs, .v (.int k' b) :: ys => if k = k' then (eqVals ts xs ys).map (fun r => decide (a = b) && r) else none
  | 1 :: ts, .v (.string a) :: xs, .v (.string b) :: ys => (eqVals ts xs ys).map (fun r => decide (a = b) && r)
  | 2 :: ts, .v (.bool a) :: xs, .v (.bool b) :: ys => (eqVals ts xs ys).map (fun r => decide (a = b) && r)
  | _, _, _ => none

section
variable {P : Program} {ρ : Operand → Value} {A : Operand → AV} {o : Oper} {base : Nat} {w : World} {H : List Box} {β : Pl}

theorem eqVals_run {d : Nat} {X Y : Array Value} : ∀ (fs : List Field) (o : Nat) (ts : List Nat) (xs ys : List AV) (r : Bool), tagsFrom P fs o = some ts → eqVals ts xs ys = some r →
    (∀ (i : Nat) (v : Value), xs[i]? = some (.v v) → X[o + i]? = some v) → (∀ (i : Nat) (v : Value), ys[i]? = some (.v v) → Y[o + i]? = some v) →
    (Op.eqFields (d + 1) X Y fs).run P w = .ok r w := by
  intro fs
  induction fs with
  | nil =>
    intro o ts xs ys r h1 h2 _ _
    simp [tagsFrom] at h1
    subst h1
    unfold eqVals at h2
    split at h2 <;> simp_all [Op.eqFields]
  | cons f fs ih =>
    intro o ts xs ys r h1 h2 hX hY
    simp only [tagsFrom] at h1
    split at h1
    · rename_i a as ha has
      injection h1 with h1
      subst h1
      unfold tagOf at ha
      split at ha
      · rename_i hn
        obtain ⟨hname, hoff⟩ := hn
        have key : ∀ (x y : Value) (b r' : Bool), (∀ e, P.underlying f.type = some e → (∀ fs, e ≠ .struct fs) ∧ (∀ n e', e ≠ .array n e')) → (P.underlying f.type).isSome = true → X[o]? = some x → Y[o]? = some y →
            (Op.equalIn (d + 1) f.type x y).run P w = .ok b w → (Op.eqFields (d + 1) X Y fs).run P w = .ok r' w → (Op.eqFields (d + 1) X Y (f :: fs)).run P w = .ok (b && r') w := by
          intro x y b r' hag hs hx hy he hr
          have hpart : ∀ (Z : Array Value) (z : Value), Z[o]? = some z → (part f.type Z f.offset).run P w = .ok z w := fun Z z hz => by
            obtain ⟨e, hu⟩ := Option.isSome_iff_exists.1 hs
            obtain ⟨g1, g2⟩ := hag e hu
            unfold part isAgg
            simp only [Sem.run_bind, run_underlying hu, Result.andThen_ok, Sem.run_pure]
            cases e <;> simp_all
          simp only [Op.eqFields, if_pos hname, Sem.run_bind, hpart X x hx, hpart Y y hy, he, Result.andThen_ok, Sem.run_ite]
          cases b with
          | true => simpa using hr
          | false => simp
        split at ha
        · rename_i k hu
          injection ha with ha
          subst ha
          unfold eqVals at h2
          split at h2
          · rename_i h; simp at h
          · rename_i ts' k1 x xs' k2 y ys' heq
            simp only [List.cons.injEq] at heq
            obtain ⟨-, rfl⟩ := heq
            split at h2
            · rename_i hk
              subst hk
              obtain ⟨r', h3, rfl⟩ := Option.map_eq_some_iff.1 h2
              refine key _ _ _ _ (fun e he => by rw [hu] at he; injection he with he; subst he; simp) (by rw [hu]; rfl) (by simpa using hX 0 _ rfl) (by simpa using hY 0 _ rfl) ?_ (ih (o + 1) _ _ _ _ has h3 (fun i v hi => by have := hX (i + 1) v (by simpa using hi); rwa [show o + (i + 1) = o + 1 + i by omega] at this) (fun i v hi => by have := hY (i + 1) v (by simpa using hi); rwa [show o + (i + 1) = o + 1 + i by omega] at this))
              rw [run_equalIn_int w d f.type k1 k _ _ hu, beqd]
            · cases h2
          · rename_i heq; simp at heq
          · rename_i heq; simp at heq
          · cases h2
        · rename_i hu
          injection ha with ha
          subst ha
          unfold eqVals at h2
          split at h2
          · rename_i h; simp at h
          · rename_i heq; simp at heq
          · rename_i ts' x xs' y ys' heq
            simp only [List.cons.injEq] at heq
            obtain ⟨-, rfl⟩ := heq
            obtain ⟨r', h3, rfl⟩ := Option.map_eq_some_iff.1 h2
            refine key _ _ _ _ (fun e he => by rw [hu] at he; injection he with he; subst he; simp) (by rw [hu]; rfl) (by simpa using hX 0 _ rfl) (by simpa using hY 0 _ rfl) ?_ (ih (o + 1) _ _ _ _ has h3 (fun i v hi => by have := hX (i + 1) v (by simpa using hi); rwa [show o + (i + 1) = o + 1 + i by omega] at this) (fun i v hi => by have := hY (i + 1) v (by simpa using hi); rwa [show o + (i + 1) = o + 1 + i by omega] at this))
            rw [run_equalIn_string w d f.type _ _ hu, bytes_list_eq]
          · rename_i heq; simp at heq
          · cases h2
        · rename_i hu
          injection ha with ha
          subst ha
          unfold eqVals at h2
          split at h2
          · rename_i h; simp at h
          · rename_i heq; simp at heq
          · rename_i heq; simp at heq
          · rename_i ts' x xs' y ys' heq
            simp only [List.cons.injEq] at heq
            obtain ⟨-, rfl⟩ := heq
            obtain ⟨r', h3, rfl⟩ := Option.map_eq_some_iff.1 h2
            refine key _ _ _ _ (fun e he => by rw [hu] at he; injection he with he; subst he; simp) (by rw [hu]; rfl) (by simpa using hX 0 _ rfl) (by simpa using hY 0 _ rfl) ?_ (ih (o + 1) _ _ _ _ has h3 (fun i v hi => by have := hX (i + 1) v (by simpa using hi); rwa [show o + (i + 1) = o + 1 + i by omega] at this) (fun i v hi => by have := hY (i + 1) v (by simpa using hi); rwa [show o + (i + 1) = o + 1 + i by omega] at this))
            rw [run_equalIn_bool' w d f.type _ _ hu, beqd]
          · cases h2
        · cases ha
      · cases ha
    · cases h1

def aggEqB (P : Program) (t : TypeId) (xs ys : List AV) : Option Bool :=
  match P.underlying t with
  | some (.array n e) => match P.underlying e with
    | some (.int .u8) => if eqOk P t = true ∧ P.cellsOf e = 1 then
        match bytesOfC xs, bytesOfC ys with
        | some a, some b => if a.length = n ∧ b.length = n then some (decide (a = b)) else none
        | _, _ => none
      else none
    | _ => none
  | some (.struct _) => (flatTags P t).bind fun ts => eqVals ts xs ys
  | _ => none
def aggEq (P : Program) (op : BinOp) (t : TypeId) (xs ys : List AV) : Option AV :=
  match op with
  | .eql => (aggEqB P t xs ys).map fun r => .v (.bool r)
  | .neq => (aggEqB P t xs ys).map fun r => .v (.bool !r)
  | _ => none

theorem rep_agg_v {cs : List AV} {x : Value} (h : Rep w H β (.agg cs) x) : ∃ vs : Array Value, x = .agg vs ∧ cs.length = vs.size ∧ ∀ (i : Nat) (v : Value), cs[i]? = some (.v v) → vs[i]? = some v := by
  cases h with
  | agg _ vs hl h =>
    refine ⟨vs, rfl, hl, fun i v hi => ?_⟩
    have hlt : i < vs.size := by have := (List.getElem?_eq_some_iff.1 hi).1; omega
    have := h i _ _ hi (Array.getElem?_eq_getElem hlt)
    rw [Array.getElem?_eq_getElem hlt]
    generalize vs[i] = u at this
    cases this
    rfl
theorem aggEqB_run {t : TypeId} {xs ys : List AV} {x y : Value} {r : Bool} (hx : Rep w H β (.agg xs) x) (hy : Rep w H β (.agg ys) y) (h : aggEqB P t xs ys = some r) :
    ∃ X Y, x = .agg X ∧ y = .agg Y ∧ (Op.equalIn 10000 t (.agg X) (.agg Y)).run P w = .ok r w ∧ P.eqGuardType P.depth t = false := by
  obtain ⟨X, rfl, hlx, hX⟩ := rep_agg_v hx
  obtain ⟨Y, rfl, hly, hY⟩ := rep_agg_v hy
  refine ⟨X, Y, rfl, rfl, ?_⟩
  unfold aggEqB at h
  split at h
  · rename_i n e hu
    split at h
    · rename_i he
      split at h
      · rename_i hok
        obtain ⟨hok, hc1⟩ := hok
        split at h
        · rename_i a b ha hb
          split at h
          · rename_i hn
            obtain ⟨hna, hnb⟩ := hn
            injection h with h
            have toC : ∀ (cs : List AV) (bs : List UInt8) (Z : Array Value), bytesOfC cs = some bs → cs.length = Z.size → (∀ (i : Nat) (v : Value), cs[i]? = some (.v v) → Z[i]? = some v) → Z = (bs.map Extern.Stop.cell).toArray := fun cs bs Z h1 h2 h3 => by
              have h4 := bytesOfC_spec _ _ h1
              subst h4
              apply Array.ext_getElem?
              intro i
              simp only [List.getElem?_toArray, List.getElem?_map]
              cases hb : bs[i]? with
              | none =>
                have := List.getElem?_eq_none_iff.1 hb
                simp only [Option.map_none]
                exact Array.getElem?_eq_none (by simpa [← h2] using this)
              | some u =>
                have := h3 i (.int .u8 u.toNat) (by simp [hb])
                rw [this]; rfl
            rw [toC xs a X ha hlx hX, toC ys b Y hb hly hY]
            refine ⟨?_, by simpa [eqOk] using hok⟩
            have hsz : ∀ w, (sizeOf e).run P w = .ok 1 w := fun w => by rw [run_sizeOf' he, hc1]
            rw [run_equalIn_bytes w 9998 t e n hu he hsz a b hna hnb, beqd, h]
          · cases h
        · cases h
      · cases h
    · cases h
  · rename_i fs hu
    obtain ⟨ts, h1, h2⟩ := Option.bind_eq_some_iff.1 h
    unfold flatTags at h1
    split at h1
    · rename_i hok
      rw [hu] at h1
      simp only at h1
      have hfs : P.fieldsOf t = fs := by simp [Program.fieldsOf, hu]
      refine ⟨?_, by simpa [eqOk] using hok.1⟩
      rw [run_equalIn_struct w 9999 t X Y (by rw [hfs]; exact hu) hok.2, hfs]
      exact eqVals_run (d := 9998) fs.toList 0 ts xs ys r h1 h2 (fun i v hi => by rw [Nat.zero_add]; exact hX i v hi) (fun i v hi => by rw [Nat.zero_add]; exact hY i v hi)
    · cases h1
  · cases h

theorem does_aggEq (hI : Inv base w H β) (hA : ∀ x, Rep w H β (A x) (ρ x)) {op : BinOp} {t yt : TypeId} {x y : Operand} (ho : o.op = .binOp op t x y yt) {xs ys : List AV} (hx : A x = .agg xs) (hy : A y = .agg ys) {r : AV} (h : aggEq P op t xs ys = some r) : Does P ρ o base w H β r H := by
  have h1 := hA x
  have h2 := hA y
  rw [hx] at h1
  rw [hy] at h2
  unfold aggEq at h
  split at h
  · obtain ⟨b, h3, rfl⟩ := Option.map_eq_some_iff.1 h
    obtain ⟨X, Y, e1, e2, e3, e4⟩ := aggEqB_run h1 h2 h3
    refine .same hI (v := .bool b) ?_ (.v _)
    simp only [execOp, ho, e1, e2, Sem.run_bind, run_eqGuard_agg w _ _ _ _ _ _ e4, Result.andThen_ok, run_eql_struct, e3, Sem.run_pure]
  · obtain ⟨b, h3, rfl⟩ := Option.map_eq_some_iff.1 h
    obtain ⟨X, Y, e1, e2, e3, e4⟩ := aggEqB_run h1 h2 h3
    refine .same hI (v := .bool !b) ?_ (.v _)
    simp only [execOp, ho, e1, e2, Sem.run_bind, run_eqGuard_agg w _ _ _ _ _ _ e4, Result.andThen_ok, run_neq_struct, e3, Sem.run_pure]
  · cases h

/-! ### Clearing -/
def aclear (P : Program) (t : TypeId) (H : List Box) (x : AV) : Option (AV × List Box) :=
  match elemTy P t, x with
  | some e, .sl b g off n sz _ => match H[b]?, zeroCs P e with
    | some bx, some z => if bx.gen = g ∧ sz = P.cellsOf e ∧ off + n * sz ≤ bx.cells.length ∧ bx.ro ≤ off ∧ z.length = sz ∧ 0 < n then
        some (.v undef, H.set b ⟨splice bx.cells off (flat (List.replicate n z)), bx.ro, bx.gen, bx.grow⟩) else none
    | _, _ => none
  | _, _ => none
theorem does_clear (hI : Inv base w H β) (hA : ∀ x, Rep w H β (A x) (ρ x)) {t : TypeId} {x : Operand} (ho : o.op = .call { callee := .builtin .clear, args := #[x], argTypes := #[t] }) {r : AV} {H' : List Box} (h : aclear P t H (A x) = some (r, H')) : Does P ρ o base w H β r H' := by
  have hs := hA x
  have key : ∀ w', (Builtin.clear_ #[t] o.type #[ρ x]).run P w = .ok undef w' → (execOp ρ o).run P w = .ok (.value undef) w' := fun w' hv => by
    simp [execOp, ho, resolve, invoke, builtin, hv]
  unfold aclear at h
  split at h
  · rename_i e b g off n sz full he hAs
    obtain ⟨hu, d, hd⟩ := elemTy_spec he
    rw [hAs] at hs
    split at h
    · rename_i bx z hb hz
      split at h
      · rename_i hc
        obtain ⟨hg, hsz, hfit, hro, hzl, h0⟩ := hc
        injection h with h
        injection h with e1 e2
        subst e1; subst e2
        obtain ⟨bx', d1, d2, a, cap, hv, e4, e5, e6⟩ := live_sl (by simp [live, hb, hg]) hs
        rw [hb] at d1
        obtain rfl := Option.some.inj d1
        obtain ⟨k, st, c, et, fr, f3, f4, f5, f6⟩ := e6 (by omega)
        subst f4
        obtain ⟨i0, zv, hi, hiz, hsz', hby, z2, z3⟩ := zero_full hz
        have hzsz : zv.cells.size = sz := by
          have := congrArg List.length z2
          simp at this
          omega
        have hrep : ∀ (i : Nat) (g : List AV), (List.replicate n z)[i]? = some g → g.length = sz := fun i g hg => by
          rw [List.getElem?_replicate] at hg
          split at hg
          · injection hg with hg; rw [← hg]; exact hzl
          · cases hg
        have hfl := flat_length hrep
        simp only [List.length_replicate] at hfl
        have hvl : ((Builtin.zeroCells zv.cells n).toList).length = (flat (List.replicate n z)).length := by
          rw [hfl, Array.length_toList, zeroCells_size, hzsz]
        have hval : ∀ j, j < n * sz → ∃ k : Nat, ∃ hk : k < zv.cells.size, (Builtin.zeroCells zv.cells n).toList[j]? = some zv.cells[k] ∧ k = j % sz := fun j hj => by
          have hpos : 0 < sz := by
            rcases Nat.eq_zero_or_pos sz with h | h
            · subst h; simp at hj
            · exact h
          have hk : j % sz < zv.cells.size := by rw [hzsz]; exact Nat.mod_lt _ hpos
          refine ⟨j % sz, hk, ?_, rfl⟩
          rw [Array.getElem?_toList, Builtin.zeroCells, Array.getElem?_map, Array.getElem?_range, if_pos (by rw [hzsz]; exact hj), Option.map_some, hzsz, getElem!_pos zv.cells _ hk]
        obtain ⟨r1, r2, r3⟩ := write_box (P := P) (o' := off) hI hb f3 (flat (List.replicate n z)) (Builtin.zeroCells zv.cells n).toList hvl (fun i d y hd hy => by
            obtain ⟨i', k', g', q1, q2, rfl⟩ := flat_get hrep i d hd
            rw [List.getElem?_replicate] at q1
            split at q1
            · rename_i hil
              injection q1 with q1
              subst q1
              have hkl := (List.getElem?_eq_some_iff.1 q2).1
              have hlt : i' * sz + k' < n * sz := by
                have : (i' + 1) * sz ≤ n * sz := Nat.mul_le_mul_right _ (by omega)
                rw [Nat.add_mul] at this
                omega
              obtain ⟨k2, hk2, h7, h8⟩ := hval _ hlt
              rw [h7] at hy
              have hmod : (i' * sz + k') % sz = k' := by rw [Nat.mul_comm, Nat.mul_add_mod]; exact Nat.mod_eq_of_lt (by omega)
              rw [hmod] at h8
              subst h8
              rw [z2] at q2
              simp only [List.getElem?_map, Array.getElem?_toList, Array.getElem?_eq_getElem hk2, Option.map_some, Option.some.injEq] at q2 hy
              rw [← q2, ← hy]
              exact rep_zcell _
            · cases q1) (fun v hv => by
            obtain ⟨j, hj⟩ := List.mem_iff_getElem?.1 hv
            have hjl := (List.getElem?_eq_some_iff.1 hj).1
            rw [hvl, hfl] at hjl
            obtain ⟨k2, hk2, h7, _⟩ := hval j hjl
            rw [hj] at h7
            injection h7 with h7
            rw [h7]
            exact z3 k2 _ (Array.getElem?_eq_getElem hk2)) hro (by omega)
        refine ⟨undef, _, β, .inl (key _ ?_), r2, r3, .v _⟩
        rw [hv]
        have hn0 : ¬ n = 0 := by omega
        obtain ⟨n', rfl⟩ : ∃ n', n = n' + 1 := ⟨n - 1, by omega⟩
        simp [Builtin.clear_, run_underlying hu, zeroValue, typeInfo, hi, hiz, r1, undef]
      · cases h
    · cases h
  · cases h
end

end Go.Proofs.YtjkdahpoalnjjaaDoor.VL

/- The value logic, part 7c: byte buffers whose block's type is known; bytes seen as a string. -/
set_option linter.unusedVariables false
set_option linter.unusedSimpArgs false
namespace Go.Proofs.YtjkdahpoalnjjaaDoor.VL
open Go Go.RowKit Go.Lib

section
variable {P : Program} {ρ : Operand → Value} {A : Operand → AV} {o : Oper} {base : Nat} {w : World} {H : List Box} {β : Pl}

def unbs : AV → AV
  | .bs b g n _ => .sl b g 0 n 1 false
  | .v (.slice none 0 0) => .emp
  | x => x
theorem unbs_rep {x : AV} {v : Value} (h : Rep w H β x v) : Rep w H β (unbs x) v := by
  unfold unbs
  split
  · cases h with
    | bs _ _ _ _ _ bx hb hg hx h ht =>
      obtain ⟨a, m, cap, hx, _⟩ := hx
      exact .sl _ _ _ _ _ _ _ bx hb hg ⟨a, m, cap, hx⟩ h
  · cases h
    exact .emp none
  · exact h
theorem bs_of_sl {b g n : Nat} {e : TypeId} {v : Value} (h : Rep w H β (.sl b g 0 n 1 false) v) (ht : ∀ a m cap, v = .slice a m cap → 0 < cap → ∃ (k : Nat) (c : Array Value) (fr : Nat × Nat), a = some ⟨k, 0, none⟩ ∧ w.heap[k]? = some (.cells c e fr) ∧ fr.1 ≤ fr.2) (hn : ∀ a m cap, v = .slice a m cap → a = none ∨ 0 < cap) : Rep w H β (.bs b g n e) v := by
  cases h with
  | sl _ _ _ _ _ _ _ bx hb hg hx h =>
    obtain ⟨a, m, cap, hx⟩ := hx
    exact .bs _ _ _ _ _ bx hb hg ⟨a, m, cap, hx, hn a m cap hx⟩ h ht

theorem andThen_inv {α β : Type} {r : Result α} {f : α → World → Result β} {b : β} {w' : World} (h : r.andThen f = .ok b w') : ∃ a w1, r = .ok a w1 ∧ f a w1 = .ok b w' := by
  cases r with
  | ok a w1 => exact ⟨a, w1, rfl, h⟩
  | halt x w1 => simp [Result.andThen] at h

/-- What an append hands back: the same row, or a new one. -/
theorem append_inv {t t2 ty e : TypeId} {i : TypeInfo} {z : Value} (ht : P.underlying t = some (.slice e)) (h2 : notInt P t2 = true) (hi : P.info? e = some i) (hz : i.zero = some z) {a : Option Addr} {n cap : Nat} {x v : Value} {w' : World}
    (hr : (Builtin.append_ #[t, t2] ty #[.slice a n cap, x]).run P w = .ok v w') : (∃ n', v = .slice a n' cap) ∨ ∃ k n' cap' c, v = .slice (some ⟨k, 0, none⟩) n' cap' ∧ 0 < cap' ∧ w'.heap[k]? = some (.cells c e (0, 0)) := by
  unfold notInt at h2
  split at h2
  case h_3 => cases h2
  all_goals
    rename_i hd2
    simp [Builtin.append_, run_underlying ht, run_underlying hd2, sizeOf, typeInfo, zeroValue, hi, hz, Question.forced] at hr
    obtain ⟨m, w1, h1, hr⟩ := andThen_inv hr
    have tail : ∀ (X : Array Value) (m' cp : Nat) (w2 : World), 0 < cp → ((newRow e X).run P w2).andThen (fun a w3 => .ok (.slice (some a) m' cp) w3) = .ok v w' → ∃ k n' cap' c, v = .slice (some ⟨k, 0, none⟩) n' cap' ∧ 0 < cap' ∧ w'.heap[k]? = some (.cells c e (0, 0)) := fun X m' cp w2 hm h => by
      simp [newRow] at h
      obtain ⟨h3, h4⟩ := h
      subst h4
      exact ⟨_, _, _, X, h3.symm, hm, by show (w2.heap.push (Obj.cells X e))[w2.heap.size]? = _; rw [Array.getElem?_push_size]⟩
    have mid : ∀ (sz n1 m1 m' cp : Nat) (y : Value) (F : Array Value → Array Value → Array Value) (w2 : World), 0 < cp → ((Builtin.firstCells sz n1 (.slice a n cap)).run P w2).andThen (fun b w3 => ((Builtin.firstCells sz m1 y).run P w3).andThen fun d w4 => ((newRow e (F b d)).run P w4).andThen fun a w5 => .ok (.slice (some a) m' cp) w5) = .ok v w' → ∃ k n' cap' c, v = .slice (some ⟨k, 0, none⟩) n' cap' ∧ 0 < cap' ∧ w'.heap[k]? = some (.cells c e (0, 0)) := fun sz n1 m1 m' cp y F w2 hm h => by
      obtain ⟨b, w3, _, h⟩ := andThen_inv h
      obtain ⟨d, w4, _, h⟩ := andThen_inv h
      exact tail _ _ _ _ hm h
    split at hr
    · obtain ⟨cs, w2, _, hr⟩ := andThen_inv hr
      cases a with
      | none => simp at hr; exact .inl ⟨_, hr.1.symm⟩
      | some ad =>
        dsimp only at hr
        rw [map_eq_pure_bind, Sem.run_bind] at hr
        obtain ⟨_, _, _, h2⟩ := andThen_inv hr
        simp at h2
        exact .inl ⟨_, h2.1.symm⟩
    · rename_i hnf
      right
      split at hr
      · obtain ⟨_, _, h3, _⟩ := andThen_inv hr
        exact absurd h3 (by unfold runtimePanic; exact fun h => nomatch h)
      · split at hr
        · obtain ⟨_, _, h3, _⟩ := andThen_inv hr
          obtain ⟨_, _, _, h4⟩ := andThen_inv h3
          simp at h4
        · exact mid _ _ _ _ _ _ (fun b d => b ++ (d ++ _)) _ (Nat.lt_of_lt_of_le (by omega) (grownCap_le w1 (n + m) cap e)) hr

def aappendB (P : Program) (t : TypeId) (H : List Box) (s x : AV) : Option (AV × List Box) :=
  match elemTy P t with
  | some e => if (zeroCs P e).map List.length = some (P.cellsOf e) then
      match aappendT P t H (unbs s) x with
      | some (.sl b' g' 0 n' 1 false, H') => some (.bs b' g' n' e, H')
      | _ => none
    else none
  | none => none
def isBs (P : Program) (t : TypeId) : AV → Bool
  | .bs _ _ _ e => match elemTy P t with
    | some e' => e' == e
    | none => false
  | .v (.slice none 0 0) => true
  | _ => false

theorem does_appendB (hI : Inv base w H β) (hA : ∀ x, Rep w H β (A x) (ρ x)) {t t2 : TypeId} {s x : Operand} (ho : o.op = .call { callee := .builtin .append, args := #[s, x], argTypes := #[t, t2] })
    (h2 : notInt P t2 = true) (hs : isBs P t (A s) = true) {r : AV} {H' : List Box} (h : aappendB P t H (A s) (unbs (A x)) = some (r, H')) : Does P ρ o base w H β r H' := by
  unfold aappendB at h
  split at h
  · rename_i e he
    split at h
    · rename_i hz
      obtain ⟨hu, d, hd⟩ := elemTy_spec he
      split at h
      · rename_i b' g' n' H1 hap
        injection h with h
        injection h with e1 e2
        subst e1; subst e2
        have hA' : ∀ y, Rep w H β (unbs (A y)) (ρ y) := fun y => unbs_rep (hA y)
        obtain ⟨v, w', β', r1, r2, r3, r4⟩ := does_appendT (A := fun y => unbs (A y)) hI hA' ho h2 hap
        have hv : (execOp ρ o).run P w = .ok (.value v) w' := by
          rcases r1 with r1 | ⟨_, rfl⟩
          · exact r1
          · cases r4 with
            | sl _ _ _ _ _ _ _ bx hb hg hx h => obtain ⟨a, m, cap, hx⟩ := hx; cases hx
        obtain ⟨a0, m0, cap0, hvs, hnil, ht⟩ : ∃ a0 m0 cap0, ρ s = .slice a0 m0 cap0 ∧ (a0 = none ∨ 0 < cap0) ∧ (0 < cap0 → ∃ (k : Nat) (c : Array Value) (fr : Nat × Nat), a0 = some ⟨k, 0, none⟩ ∧ w.heap[k]? = some (.cells c e fr) ∧ fr.1 ≤ fr.2) := by
          have hr := hA s
          unfold isBs at hs
          split at hs
          · rename_i b g n e' hAs
            rw [he] at hs
            have hee : e = e' := by simpa using hs
            subst hee
            rw [hAs] at hr
            generalize ρ s = vs at hr
            cases hr with
            | bs _ _ _ _ _ bx hb hg hx hh ht =>
              obtain ⟨a0, m0, cap0, rfl, hn⟩ := hx
              exact ⟨a0, m0, cap0, rfl, hn, ht _ _ _ rfl⟩
          · rename_i hAs
            rw [hAs] at hr
            generalize ρ s = vs at hr
            cases hr
            exact ⟨none, 0, 0, rfl, .inl rfl, fun h => by omega⟩
          · cases hs
        obtain ⟨i, z, hi, hiz, _⟩ := zero_info hz
        have hrun : (Builtin.append_ #[t, t2] o.type #[.slice a0 m0 cap0, ρ x]).run P w = .ok v w' := by
          simp [execOp, ho, resolve, invoke, builtin, hvs] at hv
          obtain ⟨y, w1, h3, h4⟩ := andThen_inv hv
          simp at h4
          obtain ⟨rfl, rfl⟩ := h4
          exact h3
        have hinv := append_inv hu h2 hi hiz hrun
        refine ⟨v, w', β', .inl hv, r2, r3, bs_of_sl r4 ?_ ?_⟩
        · intro a m cap hva h0
          rcases hinv with ⟨n1, hv1⟩ | ⟨k, n1, cap1, c, hv1, hn1, hk⟩
          · rw [hv1] at hva
            injection hva with q1 q2 q3
            subst q1; subst q2; subst q3
            obtain ⟨k, c, fr, f1, f2, f3⟩ := ht h0
            obtain ⟨c', fr', g5, _, _, g7⟩ := r3.shape k c _ fr f2
            exact ⟨k, c', fr', f1, g5, g7 f3⟩
          · rw [hv1] at hva
            injection hva with q1 q2 q3
            subst q1
            exact ⟨k, c, (0, 0), rfl, hk, Nat.le_refl _⟩
        · intro a m cap hva
          rcases hinv with ⟨n1, hv1⟩ | ⟨k, n1, cap1, c, hv1, hn1, hk⟩
          · rw [hv1] at hva
            injection hva with q1 q2 q3
            subst q1; subst q3
            exact hnil
          · rw [hv1] at hva
            injection hva with q1 q2 q3
            subst q3
            exact .inr hn1
      · cases h
    · cases h
  · cases h

/-- The first n elements. -/
def abslice (P : Program) (t : TypeId) (H : List Box) (b g n : Nat) (e : TypeId) (lo hi mx : Option AV) : Option AV :=
  match lo, mx, elemTy P t with
  | none, none, some e' => if P.cellsOf e' = 1 ∧ live H b g = true then (abnd hi n n).map fun h => .bs b g h e else none
  | _, _, _ => none
theorem does_bslice (hI : Inv base w H β) (hA : ∀ x, Rep w H β (A x) (ρ x)) {t : TypeId} {x : Operand} {lo hi mx : Option Operand} (ho : o.op = .slice t x lo hi mx) {b g n : Nat} {e : TypeId} (hx : A x = .bs b g n e) {r : AV} (h : abslice P t H b g n e (lo.map A) (hi.map A) (mx.map A) = some r) : Does P ρ o base w H β r H := by
  unfold abslice at h
  split at h
  · rename_i e' hlo hmx he
    have hlo' : lo = none := by cases lo <;> simp_all
    have hmx' : mx = none := by cases mx <;> simp_all
    subst hlo'; subst hmx'
    obtain ⟨hu, d, hd⟩ := elemTy_spec he
    split at h
    · rename_i hc
      obtain ⟨hsz, hl⟩ := hc
      obtain ⟨hh, h1, rfl⟩ := Option.map_eq_some_iff.1 h
      have hr := hA x
      rw [hx] at hr
      obtain ⟨bx, e1, e2, a, cap, hv, e4, e5, e6⟩ := live_sl hl (unbs_rep hr)
      obtain ⟨b1, b2, b3⟩ := run_bounds (P := P) (lo := none) (l := 0) hA true e4 h1 rfl
      have b1' : (Instr.sliceBounds true n cap none (hi.map ρ) none).run P w = .ok (0, hh, cap) w := b1
      rw [hv] at hr
      refine .same hI (v := .slice a hh cap) ?_ (bs_of_sl (rep_sl e1 e2 ⟨a, cap, rfl, by omega, by simp, fun h0 => ?_⟩) (fun a' m cap' ha h0 => ?_) fun a' m cap' ha => ?_)
      · simp only [execOp, ho, hv, Instr.sliceAt, Sem.run_bind, run_underlying hu, Result.andThen_ok, Instr.slice, Option.map_none, b1', run_sizeOf' hd, Sem.run_pure, hsz, Nat.zero_mul, Nat.sub_zero]
        by_cases hc0 : cap = 0
        · rw [if_pos hc0]
        · rw [if_neg hc0]
          cases a with
          | none => rfl
          | some ad => simp [Addr.add]
      · obtain ⟨k, s, c, et, fr, f1, f2, f3, f4⟩ := e6 h0
        exact ⟨k, s, c, et, fr, f1, f2, f3, f4⟩
      · injection ha with q1 q2 q3
        subst q1; subst q3
        cases hr with
        | bs _ _ _ _ _ bx hb hg hx hh ht => exact ht _ _ _ rfl h0
      · injection ha with q1 q2 q3
        subst q1; subst q3
        cases hr with
        | bs _ _ _ _ _ bx hb hg hx hh ht =>
          obtain ⟨a1, m1, c1, q, hn⟩ := hx
          injection q with q1 q2 q3
          subst q1; subst q3
          exact hn
    · cases h
  · cases h

/-- The first element's place. -/
theorem does_sliceData (hI : Inv base w H β) (hA : ∀ x, Rep w H β (A x) (ρ x)) {t : TypeId} {x : Operand} (ho : o.op = .call { callee := .builtin .unsafeSliceData, args := #[x], argTypes := #[t] }) {e' : TypeId} (hty : P.underlying o.type = some (.pointer e')) {b g n : Nat} {e : TypeId} (hx : A x = .bs b g n e) (hl : live H b g = true) : Does P ρ o base w H β (.bp b g n e) H := by
  have hr := hA x
  rw [hx] at hr
  obtain ⟨bx, e1, e2, a, cap, hv, e4, e5, e6⟩ := live_sl hl (unbs_rep hr)
  rw [hv] at hr
  cases hr with
  | bs _ _ _ _ _ bx' hb hg hx' hh ht =>
    have key : ∀ v w', (Builtin.unsafeSliceData_ #[t] o.type #[ρ x]).run P w = .ok v w' → (execOp ρ o).run P w = .ok (.value v) w' := fun v w' h => by
      simp [execOp, ho, resolve, invoke, builtin, h]
    rw [hv] at key
    cases a with
    | none =>
      have hn : n = 0 := by
        rcases Nat.eq_zero_or_pos cap with h0 | h0
        · omega
        · obtain ⟨k, s, c, et, fr, f1, f2, _⟩ := e6 h0
          cases f2
      exact .same hI (v := .pointer none) (key _ _ (run_unsafeSliceData_nil w _ _ _ _)) (.bp _ _ _ _ _ ⟨_, rfl⟩ fun h => by omega)
    | some ad =>
      by_cases hc0 : cap = 0
      · obtain ⟨a1, m1, c1, q, hn⟩ := hx'
        injection q with q1 q2 q3
        subst q1; subst q3
        rcases hn with hn | hn
        · cases hn
        · omega
      · obtain ⟨k, s, c, et, fr, f1, f2, f3, f4⟩ := e6 (by omega)
        obtain ⟨k', c', fr', q1, q2, q3⟩ := ht _ _ _ rfl (by omega)
        injection f2 with f2
        injection q1 with q1
        rw [q1] at f2
        injection f2 with f5 f6
        subst f5
        have hs0 : s = 0 := by omega
        subst hs0
        rw [q2] at f3
        injection f3 with f3
        injection f3 with f7 f8 f9
        subst f7; subst f8; subst f9
        refine .same hI (v := .pointer (some ad)) (key _ _ (run_unsafeSliceData_row w _ _ _ _ _ hc0)) (.bp _ _ _ _ _ ⟨_, rfl⟩ fun h => ⟨bx, e1, by omega, fun _ => ⟨k', c', fr', f1, by rw [q1], q2, q3, by omega⟩⟩)

/-- Bytes that a string shares from now on. -/
theorem share_cells {w : World} {k n : Nat} {c : Array Value} {e : TypeId} {fr : Nat × Nat} (hn : n ≠ 0) (hk : w.heap[k]? = some (.cells c e fr)) :
    (w.freeze ⟨k, 0, none⟩ n).heap[k]? = some (.cells c e (if fr.1 == fr.2 then (0, 0 + n) else (min fr.1 0, max fr.2 (0 + n)))) := by
  obtain ⟨lo, hi⟩ := fr
  unfold World.freeze
  rw [if_neg hn]
  simp only [Array.getElem?_modify, if_true, hk, Option.map_some]
theorem freezeC (w : World) (a b : Addr) (n : Nat) : (w.freeze a n).cell? b = w.cell? b := by
  unfold World.freeze
  split
  · rfl
  · unfold World.cell?
    simp only [Array.getElem?_modify]
    by_cases h : a.block = b.block
    · rw [if_pos h]
      cases w.heap[b.block]? with
      | none => rfl
      | some o => cases o <;> rfl
    · rw [if_neg h]
theorem sharef_inv {b k n : Nat} {bx : Box} {c : Array Value} {e : TypeId} {fr : Nat × Nat} (hI : Inv base w H β) (hb : H[b]? = some bx) (hβ : β b = some (k, 0)) (hgrow : bx.grow = true) (hro : n = bx.ro) (hx : ∀ x, Wr H β k x → n ≤ x) (hn : n ≠ 0) (hk : w.heap[k]? = some (.cells c e fr)) (hfr : fr.1 ≤ fr.2) :
    Inv base (w.freeze ⟨k, 0, none⟩ n) H β ∧ Stp base w H β (w.freeze ⟨k, 0, none⟩ n) H β := by
  obtain ⟨hbk, hkl⟩ := hI.real b bx k 0 hb hβ
  have hheap : ∀ k', k' ≠ k → (w.freeze ⟨k, 0, none⟩ n).heap[k']? = w.heap[k']? := fun k' h => by
    unfold World.freeze
    rw [if_neg hn]
    simp only [Array.getElem?_modify, if_neg (Ne.symm h)]
  have hsz : (w.freeze ⟨k, 0, none⟩ n).heap.size = w.heap.size := by
    unfold World.freeze
    rw [if_neg hn]
    simp
  have hkk := share_cells hn hk
  have hhi : fr.1 = fr.2 ∨ fr.2 ≤ bx.ro := by
    rcases Nat.lt_or_ge fr.1 fr.2 with h | h
    · right
      refine Nat.le_of_not_lt fun hlt => ?_
      have hw : Wr H β k (fr.2 - 1) := ⟨b, bx, 0, hb, hβ, by omega, .inl hgrow⟩
      have := hI.free _ _ hw
      unfold World.frozen? at this
      dsimp only at this
      rw [hk] at this
      simp at this
      omega
    · left; omega
  have hst : Stp base w H β (w.freeze ⟨k, 0, none⟩ n) H β := by
    refine ⟨by unfold World.freeze; split <;> rfl, by unfold World.freeze; split <;> rfl, by unfold World.freeze; split <;> rfl, Nat.le_of_eq hsz.symm, fun k' c' e' fr' h => ?_, fun k' o h ho => ?_, fun k' x _ _ => freezeC _ _ _ _, fun _ _ _ h => h, fun i bi hi => ⟨bi, hi, Nat.le_refl _, fun _ => rfl⟩⟩
    · by_cases hkq : k' = k
      · subst hkq
        rw [hk] at h
        injection h with h
        injection h with h1 h2 h3
        subst h1; subst h2; subst h3
        refine ⟨c, _, hkk, rfl, fun hh => by omega, fun _ => ?_⟩
        split
        · simp
        · simp only
          omega
      · exact ⟨c', fr', by rw [hheap _ hkq]; exact h, rfl, fun _ => rfl, fun h => h⟩
    · by_cases hkq : k' = k
      · subst hkq
        rw [hk] at h
        injection h with h
        exact absurd h.symm (ho c e fr)
      · rw [hheap _ hkq]; exact h
  refine ⟨⟨hI.bseS hst, hI.ro, hI.virt, fun i bx k' s' h h' => by rw [hsz]; exact hI.real i bx k' s' h h', fun i bx k' s' h h' j c' hj => ?_, fun k' x h => ?_, hI.apart⟩, hst⟩
  · obtain ⟨x, g1, g2, g3⟩ := hI.cells i bx k' s' h h' j c' hj
    exact ⟨x, by rw [freezeC]; exact g1, g2, g3.stp hst⟩
  · have hold := hI.free k' x h
    unfold World.frozen? at hold ⊢
    dsimp only at hold ⊢
    by_cases hkq : k' = k
    · subst hkq
      have hx := hx x h
      rw [hkk]
      rw [hk] at hold
      simp only [Bool.and_eq_false_iff, decide_eq_false_iff_not] at hold ⊢
      split
      · right; simp only; omega
      · rename_i hne
        simp only [beq_iff_eq] at hne
        right; simp only
        rcases hhi with hhi | hhi
        · omega
        · omega
    · rw [hheap _ hkq]
      exact hold

/-- Bytes are seen as a string: they are only read from then on. -/
def aunsafeString (P : Program) (t : TypeId) (H : List Box) (p l : AV) : Option (AV × List Box) :=
  match p, l with
  | .v (.pointer none), .v (.int .i64 m) => if m = 0 then some (.v (.string ⟨#[]⟩), H) else none
  | .bp b g n e, .v (.int .i64 m) => if m = n then
      if n = 0 then some (.v (.string ⟨#[]⟩), H) else
      match H[b]?, P.underlying t with
      | some bx, some (.pointer e') => if bx.gen = g ∧ bx.grow = true ∧ bx.ro = 0 ∧ n = bx.cells.length ∧ e' = e ∧ P.cellsOf e = 1 ∧ n ≤ 9223372036854775807 then
          (bytesOfC bx.cells).map fun bs => (.v (.string ⟨bs.toArray⟩), H.set b ⟨bx.cells, n, bx.gen, bx.grow⟩) else none
      | _, _ => none
    else none
  | _, _ => none
theorem does_unsafeString (hI : Inv base w H β) (hA : ∀ x, Rep w H β (A x) (ρ x)) {t t2 : TypeId} {p l : Operand} (ho : o.op = .call { callee := .builtin .unsafeString, args := #[p, l], argTypes := #[t, t2] }) {r : AV} {H' : List Box} (h : aunsafeString P t H (A p) (A l) = some (r, H')) : Does P ρ o base w H β r H' := by
  have hp := hA p
  have hl := hA l
  have key : ∀ v w', (Builtin.unsafeString_ #[t, t2] o.type #[ρ p, ρ l]).run P w = .ok v w' → (execOp ρ o).run P w = .ok (.value v) w' := fun v w' h => by
    simp [execOp, ho, resolve, invoke, builtin, h]
  unfold aunsafeString at h
  split at h
  · rename_i m hAp hAl
    rw [hAp] at hp
    rw [hAl] at hl
    generalize hvp : ρ p = vp at hp
    generalize hvl : ρ l = vl at hl
    rw [hvp, hvl] at key
    cases hp
    cases hl
    split at h
    · rename_i h0
      subst h0
      injection h with h
      injection h with e1 e2
      subst e1; subst e2
      exact .same hI (key _ _ (run_unsafeString_none w _ _ _ none)) (.v _)
    · cases h
  · rename_i b g n e m hAp hAl
    rw [hAp] at hp
    rw [hAl] at hl
    generalize hvp : ρ p = vp at hp
    generalize hvl : ρ l = vl at hl
    rw [hvp, hvl] at key
    cases hl
    cases hp with
    | bp _ _ _ _ _ hx hh =>
      obtain ⟨a, rfl⟩ := hx
      split at h
      · rename_i hm
        subst hm
        split at h
        · rename_i h0
          subst h0
          injection h with h
          injection h with e1 e2
          subst e1; subst e2
          exact .same hI (key _ _ (run_unsafeString_none w _ _ _ a)) (.v _)
        · rename_i h0
          split at h
          · rename_i bx e' hb hu
            split at h
            · rename_i hc
              obtain ⟨hg, hgrow, hro, hn, rfl, hce, h63⟩ := hc
              obtain ⟨bs, hbs, h⟩ := Option.map_eq_some_iff.1 h
              injection h with e1 e2
              subst e1; subst e2
              have hcs := bytesOfC_spec _ _ hbs
              obtain ⟨bx', hb', _, hq⟩ := hh (by omega)
              rw [hb] at hb'
              obtain rfl := Option.some.inj hb'
              obtain ⟨k, c, fr, f1, f2, f3, f4, f5⟩ := hq hg
              have hbl : bs.length = n := by rw [hn, hcs, List.length_map]
              have hcell : ∀ j x, bs[j]? = some x → w.cell? ((⟨k, 0, none⟩ : Addr).add j) = some (.int .u8 x.toNat) := fun j x hj => by
                obtain ⟨y, y1, _, y3⟩ := hI.cells b bx k 0 hb f1 j (.v (.int .u8 x.toNat)) (by rw [hcs, List.getElem?_map, hj]; rfl)
                cases y3
                rw [add_plain]
                exact y1
              have hrun := run_unsafeString_row (P := P) w t t2 o.type e' hu hce k c.size (by simp [World.shape?, f3]) bs (by intro hh; rw [hh] at hbl; simp at hbl; omega) (by omega) (by omega) hcell
              obtain ⟨g1, g2⟩ := freeze_inv hI hb (m := n) (by omega)
              have hmax : max bx.ro n = n := by omega
              rw [hmax] at g1 g2
              have hbl' : b < H.length := (List.getElem?_eq_some_iff.1 hb).1
              have hb2 : (H.set b ⟨bx.cells, n, bx.gen, bx.grow⟩)[b]? = some ⟨bx.cells, n, bx.gen, bx.grow⟩ := List.getElem?_set_self hbl'
              obtain ⟨g3, g4⟩ := sharef_inv g1 hb2 f1 hgrow rfl (fun x hw => by
                obtain ⟨i, bi, s, h1, h2, h3, h4⟩ := hw
                by_cases hi : i = b
                · subst hi
                  rw [hb2] at h1
                  injection h1 with h1
                  subst h1
                  rw [f1] at h2
                  injection h2 with h2
                  injection h2 with _ h2
                  subst h2
                  have h5 : 0 + n ≤ x := h3
                  omega
                · rw [List.getElem?_set_ne (Ne.symm hi)] at h1
                  exact absurd (.inl hgrow) (hI.apart i b bi bx k s 0 x hi h1 hb h2 f1 h3 h4 (by omega))) h0 f3 f4
              rw [hbl] at hrun
              rw [f2] at key
              exact ⟨_, _, _, .inl (key _ _ hrun), g3, g2.trans g4, .v _⟩
            · cases h
          · cases h
      · cases h
  · cases h

end
end Go.Proofs.YtjkdahpoalnjjaaDoor.VL

/- The value logic, part 8: operations put together; states; what code does. -/
set_option linter.unusedVariables false
set_option linter.unusedSimpArgs false
namespace Go.Proofs.YtjkdahpoalnjjaaDoor.VL
open Go Go.RowKit Go.Lib

/-! ### One operation -/
def withH (H : List Box) : Option AV → Option (AV × List Box)
  | some r => some (r, H)
  | none => none
def nilOk (H : List Box) : AV → Bool
  | .ptr b g _ => live H b g
  | .elt .. => true
  | .fn .. => true
  | _ => false

def abuiltin (P : Program) (ty : TypeId) (b : Builtin) (ts : List TypeId) (H : List Box) (xs : List AV) : Option (AV × List Box) :=
  match b, ts, xs with
  | .len, [t], [x] => withH H (alen P t H (unbs x))
  | .cap, [t], [x] => withH H (acap P t H (unbs x))
  | .unsafeSliceData, [t], [x] => match x with
    | .bs b g n e => match P.underlying ty with
      | some (.pointer _) => if live H b g = true then some (.bp b g n e, H) else none
      | _ => none
    | .v (.slice none 0 0) => some (.v (.pointer none), H)
    | _ => none
  | .unsafeString, [t, _], [p, l] => aunsafeString P t H p l
  | .clear, [t], [x] => aclear P t H x
  | .min, _, [x, y] => withH H (amin x y)
  | .max, _, [x, y] => withH H (amax x y)
  | .append, [t, t2], [s, x] => bif isBs P t s then (if notInt P t2 then aappendB P t H s (unbs x) else none) else if notInt P t2 then aappendT P t H s x else if isInt P t2 then aappendZ P t H s x else none
  | .copy, [t, _], [d, x] => acopy P t H (unbs d) (unbs x)
  | _, _, _ => none

/-- Values that name no memory. -/
def plainVals : List AV → Option (List Value)
  | [] => some []
  | .v x :: r => (plainVals r).map (x :: ·)
  | _ :: _ => none
theorem plainVals_eq : ∀ {cs : List AV} {vs : List Value}, plainVals cs = some vs → cs = vs.map .v
  | [], vs, h => by injection h with h; subst h; rfl
  | c :: r, vs, h => by
    unfold plainVals at h
    split at h
    · rename_i he; cases he
    · rename_i x r' he
      injection he with h1 h2
      subst h1; subst h2
      obtain ⟨vs', h3, rfl⟩ := Option.map_eq_some_iff.1 h
      rw [plainVals_eq h3]; rfl
    · cases h
/-- A value as an interface's. -/
def amkI (P : Program) (t : TypeId) : AV → Option AV
  | .v x => match P.underlying t with
    | some (.interface _) => none
    | some _ => some (.v (.iface t x))
    | none => none
  | .agg cs => match plainVals cs, P.underlying t with
    | some _, some (.interface _) => none
    | some vs, some _ => some (.v (.iface t (.agg vs.toArray)))
    | _, _ => none
  | _ => none
/-- A value that names no memory, as an abstract one. -/
def plainAV : Value → AV
  | .agg vs => .agg (vs.toList.map .v)
  | v => .v v
theorem rep_plainAV {w : World} {H : List Box} {β : Pl} (v : Value) : Rep w H β (plainAV v) v := by
  cases v with
  | agg vs =>
    exact .agg _ vs (by simp) fun i c x hc hx => by
      rw [List.getElem?_map] at hc
      obtain ⟨y, hy, rfl⟩ := Option.map_eq_some_iff.1 hc
      rw [← Array.getElem?_toList] at hx
      rw [hy] at hx
      injection hx with hx
      subst hx
      exact .v _
  | _ => exact .v _
/-- An interface's value, asked for a type that is none. -/
def atypeA (P : Program) (t : TypeId) (ok : Bool) : AV → Option AV
  | .v (.iface u x) => match P.underlying t with
    | some (.interface _) => none
    | some _ => if u = t ∧ ok = true then some (.tup [plainAV x, .v (.bool true)]) else none
    | none => none
  | _ => none
/-- Is it asked whether something is nil? -/
def eqlNil : BinOp → Operand → Bool
  | .eql, .const .nilIface => true
  | _, _ => false
theorem eqlNil_eq {op : BinOp} {y : Operand} (h : eqlNil op y = true) : op = .eql ∧ y = .const .nilIface := by
  unfold eqlNil at h
  split at h
  · exact ⟨rfl, rfl⟩
  · cases h
/-- Is an interface nil? -/
def aisNil (P : Program) (t : TypeId) : AV → AV → Option AV
  | .v .nilIface, .v (.iface _ _) => match P.underlying t with
    | some (.interface _) => some (.v (.bool false))
    | _ => none
  | .v .nilIface, .v .nilIface => match P.underlying t with
    | some (.interface _) => some (.v (.bool true))
    | _ => none
  | _, _ => none
def aopU (P : Program) (ty : TypeId) (A : Operand → AV) (H : List Box) : Op → Option (AV × List Box)
  | .move x => some (A x, H)
  | .assign x => some (A x, H)
  | .pick c a b => match A c with
    | .v (.bool t) => some (apick t (A a) (A b), H)
    | _ => none
  | .alloc t => match zeroCs P t with
    | some cs => bif selfTy P t && selfOk cs then some (selfBox H t cs) else some (newBox H cs)
    | none => none
  | .box _ x => match (A x).cells with
    | some cs => if cs.all AV.one = true then some (newBox H cs) else none
    | none => none
  | .build t ps => withH H (abuild P A t ps)
  | .buildSlice t n ps => withH H (abuildSlice P A t n ps)
  | .load t x => withH H (aloadAt P t H (A x))
  | .store t x y => match astoreAt P t H (A x) (A y) with
    | some H' => some (.dead, H')
    | none => none
  | .nilCheck x => if nilOk H (A x) then some (A x, H) else none
  | .typeAssert x _ t ok => withH H (atypeA P t ok (A x))
  | .binOp op t x y _ => withH H (match A x, A y with
    | .agg xs, .agg ys => aggEq P op t xs ys
    | a, b => bif eqlNil op y then aisNil P t b a else abin P op t a b)
  | .unOp op _ x => withH H (aun op (A x))
  | .convert s d x => withH H (aconvH P H s d (A x))
  | .makeSlice t l c => amake P t H (A l) (A c)
  | .slice t x lo hi mx => withH H (match A x with
    | .bs b g n e => abslice P t H b g n e (lo.map A) (hi.map A) (mx.map A)
    | y => aslice P t H y (lo.map A) (hi.map A) (mx.map A))
  | .fieldAddr s x f => withH H (afieldAddr P s f H (A x))
  | .field s x f => withH H (afield P s f (A x))
  | .indexAddr t x i => withH H (aindexAddr P t H (A x) (A i))
  | .index t x i => withH H (aindex P t (A x) (A i))
  | .extract x i => withH H (aextract (A x) i)
  | .makeFunc (.func f) first cs => if first.size = 0 then some (.fn f (acaps A cs), H) else none
  | .makeInterface t x => withH H (amkI P t (A x))
  | .call { callee := .builtin b, args, argTypes } => abuiltin P ty b argTypes.toList H (args.toList.map A)
  | _ => none

section
variable {P : Program} {ρ : Operand → Value} {A : Operand → AV} {o : Oper} {base : Nat} {w : World} {H : List Box} {β : Pl}
theorem withH_some {H H' : List Box} {x : Option AV} {r : AV} (h : withH H x = some (r, H')) : x = some r ∧ H' = H := by
  cases x with
  | none => simp [withH] at h
  | some y => simp [withH] at h; exact ⟨by rw [h.1], h.2.symm⟩
theorem arr1 {α : Type} {xs : Array α} {x : α} (h : xs.toList = [x]) : xs = #[x] := by apply Array.ext'; simp [h]
theorem arr2 {α : Type} {xs : Array α} {x y : α} (h : xs.toList = [x, y]) : xs = #[x, y] := by apply Array.ext'; simp [h]

theorem run_makeI {t : TypeId} {d : TypeDesc} (ht : P.underlying t = some d) (hd : ∀ m, d ≠ .interface m) (v : Value) : (Instr.makeInterface t v).run P w = .ok (.iface t v) w := by
  unfold Instr.makeInterface
  simp only [Sem.run_bind, run_underlying ht, Result.andThen_ok]
  cases d <;> first | rfl | exact absurd rfl (hd _)
theorem does_makeI (hI : Inv base w H β) (hA : ∀ x, Rep w H β (A x) (ρ x)) {t : TypeId} {x : Operand} (ho : o.op = .makeInterface t x) {r : AV} (h : amkI P t (A x) = some r) : Does P ρ o base w H β r H := by
  have hx := hA x
  unfold amkI at h
  split at h
  · rename_i y hAx
    rw [hAx] at hx
    generalize hv : ρ x = v at hx
    cases hx
    split at h
    · cases h
    · rename_i d hd hn
      injection h with h
      subst h
      exact .same hI (by simp [execOp, ho, hv, run_makeI hn (fun m e => hd m e)]) (.v _)
    · cases h
  · rename_i cs hAx
    rw [hAx] at hx
    generalize hv : ρ x = v at hx
    split at h
    · cases h
    · rename_i vs d hd hp hn
      injection h with h
      subst h
      have hcs := plainVals_eq hp
      subst hcs
      cases hx with
      | agg _ ws hl hr =>
        have hws : ws = vs.toArray := by
          apply Array.ext
          · simpa using hl.symm
          · intro i h1 h2
            have h3 : (vs.map AV.v)[i]? = some (.v (vs[i]'(by simpa using h2))) := by simp
            have := hr i _ _ h3 (Array.getElem?_eq_getElem h1)
            generalize hq : ws[i] = q at this
            cases this
            simp
        subst hws
        exact .same hI (by simp [execOp, ho, hv, run_makeI hn (fun m e => hd m e)]) (.v _)
    · cases h
  · cases h
theorem does_typeA (hI : Inv base w H β) (hA : ∀ x, Rep w H β (A x) (ρ x)) {x : Operand} {s t : TypeId} {ok : Bool} (ho : o.op = .typeAssert x s t ok) {r : AV} (h : atypeA P t ok (A x) = some r) : Does P ρ o base w H β r H := by
  have hx := hA x
  unfold atypeA at h
  split at h
  · rename_i u y hAx
    rw [hAx] at hx
    generalize hv : ρ x = v at hx
    cases hx
    split at h
    · cases h
    · rename_i d hd hn
      split at h
      · rename_i hc
        obtain ⟨rfl, rfl⟩ := hc
        injection h with h
        subst h
        refine .same hI (v := .tuple #[y, .bool true]) ?_ (.tup _ _ rfl fun i c z hc hz => ?_)
        · simp only [execOp, ho, hv]
          unfold Instr.typeAssert
          simp only [Sem.run_bind, run_underlying hn, Result.andThen_ok]
          cases d <;> first | simp [Sem.run_pure] | exact absurd rfl (hd _)
        · rcases i with _ | _ | i
          · simp at hc hz; subst hc; subst hz; exact rep_plainAV _
          · simp at hc hz; subst hc; subst hz; exact .v _
          · simp at hc
      · cases h
    · cases h
  · cases h
theorem run_isNil {t : TypeId} {ms : Array (String × TypeId)} (ht : P.underlying t = some (.interface ms)) (v : Value) (b : Bool) (hv : (v = .nilIface ∧ b = true) ∨ ((∃ u x, v = .iface u x) ∧ b = false)) : (Op.equal t v .nilIface).run P w = .ok b w := by
  have : (Op.equalIn (9999 + 1) t v .nilIface).run P w = .ok b w := by
    rw [Op.equalIn]
    rcases hv with ⟨rfl, rfl⟩ | ⟨⟨u, x, rfl⟩, rfl⟩ <;> simp only [Sem.run_bind, run_underlying ht, Result.andThen_ok, Sem.run_pure]
  exact this
theorem does_isNil (hI : Inv base w H β) (hA : ∀ x, Rep w H β (A x) (ρ x)) {t : TypeId} {x : Operand} {yt : TypeId} (ho : o.op = .binOp .eql t x (.const .nilIface) yt) {r : AV} (h : aisNil P t (A (.const .nilIface)) (A x) = some r) : Does P ρ o base w H β r H := by
  have hx := hA x
  have hc := hA (.const .nilIface)
  unfold aisNil at h
  split at h
  · rename_i u y hAc hAx
    rw [hAx] at hx
    rw [hAc] at hc
    generalize hv : ρ x = v at hx
    generalize hcv : ρ (.const .nilIface) = c at hc
    cases hx
    cases hc
    split at h
    · rename_i ms hn
      injection h with h
      subst h
      refine .same hI (v := .bool false) ?_ (.v _)
      simp only [execOp, ho, hv, hcv, Sem.run_bind]
      simp [eqGuard, binOp, run_isNil hn (.iface u y) false (.inr ⟨⟨u, y, rfl⟩, rfl⟩)]
    · cases h
  · rename_i hAc hAx
    rw [hAx] at hx
    rw [hAc] at hc
    generalize hv : ρ x = v at hx
    generalize hcv : ρ (.const .nilIface) = c at hc
    cases hx
    cases hc
    split at h
    · rename_i ms hn
      injection h with h
      subst h
      refine .same hI (v := .bool true) ?_ (.v _)
      simp only [execOp, ho, hv, hcv, Sem.run_bind]
      simp [eqGuard, binOp, run_isNil hn .nilIface true (.inl ⟨rfl, rfl⟩)]
    · cases h
  · cases h
theorem aopU_sound (hI : Inv base w H β) (hA : ∀ x, Rep w H β (A x) (ρ x)) {r : AV} {H' : List Box} (h : aopU P o.type A H o.op = some (r, H')) : Does P ρ o base w H β r H' := by
  unfold aopU at h
  split at h
  · rename_i x ho
    injection h with h; injection h with e1 e2; subst e1; subst e2
    exact does_move hI hA ho
  · rename_i x ho
    injection h with h; injection h with e1 e2; subst e1; subst e2
    exact does_assign hI hA ho
  · rename_i c a b ho
    split at h
    · rename_i t hc
      injection h with h; injection h with e1 e2; subst e1; subst e2
      exact does_pick hI hA ho hc
    · cases h
  · rename_i t ho
    split at h
    · rename_i cs hz
      cases hse : selfTy P t && selfOk cs with
      | true =>
        rw [hse, cond_true] at h
        injection h with h
        have := does_allocS (P := P) (ρ := ρ) hI ho hz (by simp only [Bool.and_eq_true] at hse; exact hse.2)
        rw [h] at this
        exact this
      | false =>
        rw [hse, cond_false] at h
        injection h with h
        have := does_alloc (P := P) (ρ := ρ) hI ho hz
        rw [h] at this
        exact this
    · cases h
  · rename_i t x ho
    split at h
    · rename_i cs hz
      split at h
      · rename_i hone
        injection h with h
        have := does_box (P := P) hI hA ho hz hone
        rw [h] at this
        exact this
      · cases h
    · cases h
  · rename_i t ps ho
    obtain ⟨h1, rfl⟩ := withH_some h
    exact does_build hI hA ho h1
  · rename_i t n ps ho
    obtain ⟨h1, rfl⟩ := withH_some h
    obtain ⟨v, w', β', r1, r2, r3, r4, _⟩ := does_buildSlice hI hA ho h1
    exact ⟨v, w', β', .inl r1, r2, r3, r4⟩
  · rename_i t x ho
    obtain ⟨h1, rfl⟩ := withH_some h
    exact does_load hI hA ho h1
  · rename_i t x y ho
    split at h
    · rename_i H1 hst
      injection h with h; injection h with e1 e2; subst e1; subst e2
      exact does_store hI hA ho hst
    · cases h
  · rename_i x ho
    split at h
    · rename_i hn
      injection h with h; injection h with e1 e2; subst e1; subst e2
      have hx := hA x
      unfold nilOk at hn
      split at hn
      · rename_i b g off hAx
        rw [hAx] at hx ⊢
        obtain ⟨bx, k, s, h1, h2, h3, h4⟩ := live_ptr hn hx
        exact .same hI (v := ρ x) (by simp [execOp, ho, h4]) hx
      · rename_i g j hAx
        rw [hAx] at hx ⊢
        generalize hv : ρ x = v at hx
        cases hx with
        | elt _ _ k s y hc hr => exact .same hI (by simp [execOp, ho, hv]) (.elt _ _ k s y hc hr)
      · rename_i f cs hAx
        rw [hAx] at hx ⊢
        generalize hv : ρ x = v at hx
        cases hx with
        | fn _ _ vs hl hr => exact .same hI (by simp [execOp, ho, hv]) (.fn _ _ vs hl hr)
      · cases hn
    · cases h
  · rename_i x s t ok ho
    obtain ⟨h1, rfl⟩ := withH_some h
    exact does_typeA hI hA ho h1
  · rename_i op t x y yt ho
    obtain ⟨h1, rfl⟩ := withH_some h
    split at h1
    · rename_i xs ys hx hy
      exact does_aggEq hI hA ho hx hy h1
    · cases he : eqlNil op y with
      | true =>
        rw [he, cond_true] at h1
        obtain ⟨rfl, rfl⟩ := eqlNil_eq he
        exact does_isNil hI hA ho h1
      | false =>
        rw [he, cond_false] at h1
        exact does_binOp hI hA ho h1
  · rename_i op t x ho
    obtain ⟨h1, rfl⟩ := withH_some h
    exact does_unOp hI hA ho h1
  · rename_i s d x ho
    obtain ⟨h1, rfl⟩ := withH_some h
    exact does_convertH hI hA ho h1
  · rename_i t l c ho
    exact does_make hI hA ho h
  · rename_i t x lo hi mx ho
    obtain ⟨h1, rfl⟩ := withH_some h
    split at h1
    · rename_i b g n e hx
      exact does_bslice hI hA ho hx h1
    · exact does_slice hI hA ho h1
  · rename_i s x f ho
    obtain ⟨h1, rfl⟩ := withH_some h
    exact does_fieldAddr hI hA ho h1
  · rename_i s x f ho
    obtain ⟨h1, rfl⟩ := withH_some h
    exact does_field hI hA ho h1
  · rename_i t x i ho
    obtain ⟨h1, rfl⟩ := withH_some h
    exact does_indexAddr hI hA ho h1
  · rename_i t x i ho
    obtain ⟨h1, rfl⟩ := withH_some h
    exact does_index hI hA ho h1
  · rename_i x i ho
    obtain ⟨h1, rfl⟩ := withH_some h
    exact does_extract hI hA ho h1
  · rename_i f first cs ho
    split at h
    · rename_i h0
      injection h with h; injection h with e1 e2; subst e1; subst e2
      have : first = #[] := Array.eq_empty_of_size_eq_zero h0
      subst this
      exact does_makeFunc hI hA ho
    · cases h
  · rename_i t x ho
    obtain ⟨h1, rfl⟩ := withH_some h
    exact does_makeI hI hA ho h1
  · rename_i b args ts ho
    unfold abuiltin at h
    split at h
    · rename_i t x hts hxs
      obtain ⟨h1, rfl⟩ := withH_some h
      obtain ⟨y, hy, rfl⟩ : ∃ y, args.toList = [y] ∧ A y = x := by
        cases ha : args.toList with
        | nil => rw [ha] at hxs; cases hxs
        | cons y r => rw [ha] at hxs; simp at hxs; exact ⟨y, by rw [hxs.2], hxs.1⟩
      rw [arr1 hts, arr1 hy] at ho
      exact does_len (A := fun y => unbs (A y)) hI (fun y => unbs_rep (hA y)) ho h1
    · rename_i t x hts hxs
      obtain ⟨h1, rfl⟩ := withH_some h
      obtain ⟨y, hy, rfl⟩ : ∃ y, args.toList = [y] ∧ A y = x := by
        cases ha : args.toList with
        | nil => rw [ha] at hxs; cases hxs
        | cons y r => rw [ha] at hxs; simp at hxs; exact ⟨y, by rw [hxs.2], hxs.1⟩
      rw [arr1 hts, arr1 hy] at ho
      exact does_cap (A := fun y => unbs (A y)) hI (fun y => unbs_rep (hA y)) ho h1
    · rename_i t x hts hxs
      obtain ⟨y, hy, rfl⟩ : ∃ y, args.toList = [y] ∧ A y = x := by
        cases ha : args.toList with
        | nil => rw [ha] at hxs; cases hxs
        | cons y r => rw [ha] at hxs; simp at hxs; exact ⟨y, by rw [hxs.2], hxs.1⟩
      rw [arr1 hts, arr1 hy] at ho
      split at h
      · rename_i b g n e hx
        split at h
        · rename_i e' hty
          split at h
          · rename_i hl
            injection h with h
            injection h with e1 e2
            subst e1; subst e2
            exact does_sliceData hI hA ho hty hx hl
          · cases h
        · cases h
      · rename_i hx
        injection h with h
        injection h with e1 e2
        subst e1; subst e2
        have hr := hA y
        rw [hx] at hr
        generalize hv : ρ y = v at hr
        cases hr
        exact .same hI (v := .pointer none) (by simp [execOp, ho, resolve, invoke, builtin, hv, run_unsafeSliceData_nil]) (.v _)
      · cases h
    · rename_i t t2 p l hts hxs
      obtain ⟨p', q', hp, rfl, rfl⟩ : ∃ p' q', args.toList = [p', q'] ∧ A p' = p ∧ A q' = l := by
        cases ha : args.toList with
        | nil => rw [ha] at hxs; cases hxs
        | cons p r =>
          rw [ha] at hxs
          cases r with
          | nil => simp at hxs
          | cons q r => simp at hxs; exact ⟨p, q, by rw [hxs.2.2], hxs.1, hxs.2.1⟩
      rw [arr2 hp, arr2 hts] at ho
      exact does_unsafeString hI hA ho h
    · rename_i t x hts hxs
      obtain ⟨y, hy, rfl⟩ : ∃ y, args.toList = [y] ∧ A y = x := by
        cases ha : args.toList with
        | nil => rw [ha] at hxs; cases hxs
        | cons y r => rw [ha] at hxs; simp at hxs; exact ⟨y, by rw [hxs.2], hxs.1⟩
      rw [arr1 hts, arr1 hy] at ho
      exact does_clear hI hA ho h
    · rename_i ts' x y hxs
      obtain ⟨h1, rfl⟩ := withH_some h
      obtain ⟨p, q, hp, rfl, rfl⟩ : ∃ p q, args.toList = [p, q] ∧ A p = x ∧ A q = y := by
        cases ha : args.toList with
        | nil => rw [ha] at hxs; cases hxs
        | cons p r =>
          rw [ha] at hxs
          cases r with
          | nil => simp at hxs
          | cons q r => simp at hxs; exact ⟨p, q, by rw [hxs.2.2], hxs.1, hxs.2.1⟩
      rw [arr2 hp] at ho
      exact does_min hI hA ho h1
    · rename_i ts' x y hxs
      obtain ⟨h1, rfl⟩ := withH_some h
      obtain ⟨p, q, hp, rfl, rfl⟩ : ∃ p q, args.toList = [p, q] ∧ A p = x ∧ A q = y := by
        cases ha : args.toList with
        | nil => rw [ha] at hxs; cases hxs
        | cons p r =>
          rw [ha] at hxs
          cases r with
          | nil => simp at hxs
          | cons q r => simp at hxs; exact ⟨p, q, by rw [hxs.2.2], hxs.1, hxs.2.1⟩
      rw [arr2 hp] at ho
      exact does_max hI hA ho h1
    · rename_i t t2 x y hts hxs
      obtain ⟨p, q, hp, rfl, rfl⟩ : ∃ p q, args.toList = [p, q] ∧ A p = x ∧ A q = y := by
        cases ha : args.toList with
        | nil => rw [ha] at hxs; cases hxs
        | cons p r =>
          rw [ha] at hxs
          cases r with
          | nil => simp at hxs
          | cons q r => simp at hxs; exact ⟨p, q, by rw [hxs.2.2], hxs.1, hxs.2.1⟩
      rw [arr2 hp, arr2 hts] at ho
      cases hbs : isBs P t (A p) with
      | true =>
        rw [hbs, cond_true] at h
        split at h
        · rename_i hn
          exact does_appendB hI hA ho hn hbs h
        · cases h
      | false =>
        rw [hbs, cond_false] at h
        split at h
        · rename_i hn
          exact does_appendT hI hA ho hn h
        · split at h
          · rename_i hn
            exact does_appendZ hI hA ho hn h
          · cases h
    · rename_i t t2 x y hts hxs
      obtain ⟨p, q, hp, rfl, rfl⟩ : ∃ p q, args.toList = [p, q] ∧ A p = x ∧ A q = y := by
        cases ha : args.toList with
        | nil => rw [ha] at hxs; cases hxs
        | cons p r =>
          rw [ha] at hxs
          cases r with
          | nil => simp at hxs
          | cons q r => simp at hxs; exact ⟨p, q, by rw [hxs.2.2], hxs.1, hxs.2.1⟩
      rw [arr2 hp, arr2 hts] at ho
      exact does_copy (A := fun y => unbs (A y)) hI (fun y => unbs_rep (hA y)) ho h
    · cases h
  · cases h

/-! ### Literals -/
def unlit : AV → AV
  | .lit _ sz gs => .lst sz gs
  | x => x
theorem unlit_rep {x : AV} {v : Value} (h : Rep w H β x v) : Rep w H β (unlit x) v := by
  unfold unlit
  split
  · cases h with
    | lit _ _ _ _ h _ => exact h
  · exact h
def isConst : Operand → Bool
  | .const _ => true
  | _ => false
def constParts (ps : Array (Nat × Operand)) : Bool := ps.toList.all fun p => isConst p.2
def relit (b : Nat) : AV × List Box → AV × List Box
  | (.lst sz gs, H) => (.lit b sz gs, H)
  | r => r
def isBytes (P : Program) (s : TypeId) : Bool := match P.underlying s with
  | some (.slice e) => match P.underlying e with
    | some (.int .u8) => true
    | _ => false
  | _ => false
def litConv (P : Program) (b : Nat) (s d : TypeId) : AV → Bool
  | .lit n _ _ => n == b && (s == d && isBytes P s)
  | _ => false
def aop (P : Program) (ty : TypeId) (b : Nat) (A : Operand → AV) (H : List Box) (op : Op) : Option (AV × List Box) :=
  match op with
  | .buildSlice t n ps => bif constParts ps then (aopU P ty (fun x => unlit (A x)) H (.buildSlice t n ps)).map (relit b) else aopU P ty (fun x => unlit (A x)) H (.buildSlice t n ps)
  | .convert s d x => bif litConv P b s d (A x) then some (unlit (A x), H) else aopU P ty (fun x => unlit (A x)) H (.convert s d x)
  | op => aopU P ty (fun x => unlit (A x)) H op

theorem freeze_cell (w : World) (a b : Addr) (n : Nat) : (w.freeze a n).cell? b = w.cell? b := by
  unfold World.freeze
  split
  · rfl
  · unfold World.cell?
    simp only [Array.getElem?_modify]
    by_cases h : a.block = b.block
    · rw [if_pos h]
      cases w.heap[b.block]? with
      | none => rfl
      | some o => cases o <;> rfl
    · rw [if_neg h]
theorem mark_inv {k s : Nat} {c : Array Value} {e : TypeId} {fr : Nat × Nat} (hI : Inv base w H β) (hk : w.heap[k]? = some (.cells c e fr)) (hb : base ≤ k) (hw : ∀ y, ¬ Wr H β k y) :
    Inv base (w.freeze ⟨k, s, none⟩ 1) H β ∧ Stp base w H β (w.freeze ⟨k, s, none⟩ 1) H β := by
  have hheap : ∀ k', k' ≠ k → (w.freeze ⟨k, s, none⟩ 1).heap[k']? = w.heap[k']? := fun k' h => by
    unfold World.freeze
    rw [if_neg (by decide)]
    simp only [Array.getElem?_modify, if_neg (Ne.symm h)]
  have hsz : (w.freeze ⟨k, s, none⟩ 1).heap.size = w.heap.size := by
    unfold World.freeze
    rw [if_neg (by decide)]
    simp
  have hst : Stp base w H β (w.freeze ⟨k, s, none⟩ 1) H β := by
    refine ⟨by unfold World.freeze; split <;> rfl, by unfold World.freeze; split <;> rfl, by unfold World.freeze; split <;> rfl, Nat.le_of_eq hsz.symm, fun k' c' e' fr' h => ?_, fun k' o h ho => ?_, fun k' x _ _ => freeze_cell _ _ _ _, fun _ _ _ h => h, fun i bi hi => ⟨bi, hi, Nat.le_refl _, fun _ => rfl⟩⟩
    · by_cases hkk : k' = k
      · subst hkk
        rw [hk] at h
        injection h with h
        injection h with h1 h2 h3
        subst h1; subst h2; subst h3
        have hm : ∃ fr', (w.freeze ⟨k', s, none⟩ 1).heap[k']? = some (.cells c e fr') ∧ fr'.1 ≤ fr'.2 := by
          obtain ⟨lo, hi⟩ := fr
          unfold World.freeze
          rw [if_neg (by decide)]
          simp only [Array.getElem?_modify, if_true, hk, Option.map_some]
          refine ⟨_, rfl, ?_⟩
          split
          · exact Nat.le_add_right _ _
          · dsimp only; omega
        obtain ⟨fr', hm⟩ := hm
        exact ⟨c, fr', hm.1, rfl, fun hh => by omega, fun _ => hm.2⟩
      · exact ⟨c', fr', by rw [hheap _ hkk]; exact h, rfl, fun _ => rfl, fun h => h⟩
    · by_cases hkk : k' = k
      · subst hkk
        rw [hk] at h
        injection h with h
        exact absurd h.symm (ho c e fr)
      · rw [hheap _ hkk]; exact h
  refine ⟨⟨hI.bseS hst, hI.ro, hI.virt, fun i bx k' s' h h' => by rw [hsz]; exact hI.real i bx k' s' h h', fun i bx k' s' h h' j c' hj => ?_, fun k' x h => ?_, hI.apart⟩, hst⟩
  · obtain ⟨x, g1, g2, g3⟩ := hI.cells i bx k' s' h h' j c' hj
    exact ⟨x, by rw [freeze_cell]; exact g1, g2, g3.stp hst⟩
  · have hkk : k' ≠ k := fun e => hw x (e ▸ h)
    have := hI.free k' x h
    unfold World.frozen? at this ⊢
    dsimp only at this ⊢
    rw [hheap _ hkk]
    exact this

theorem does_litConv (hI : Inv base w H β) {x : Operand} {t : TypeId} (ho : o.op = .convert t t x) {sz : Nat} {gs : List (List AV)} (hx : Rep w H β (.lit base sz gs) (ρ x)) (hb : isBytes P t = true) : Does P ρ o base w H β (.lst sz gs) H := by
  unfold isBytes at hb
  split at hb
  · rename_i e ht
    split at hb
    · rename_i he
      generalize hv : ρ x = v at hx
      cases hx with
      | lit _ _ _ _ h hk =>
        obtain ⟨k, s, m, cap, rfl, h1, h2, h3⟩ := hk
        cases hh : w.shape? k with
        | none =>
          refine .same hI (v := .slice (some ⟨k, s, none⟩) m cap) ?_ h
          simp [execOp, ho, hv, convert, run_underlying ht, run_underlying he, markStringish, hh]
        | some p =>
          obtain ⟨e', n⟩ := p
          have hcells : ∃ c e fr, w.heap[k]? = some (.cells c e fr) := by
            unfold World.shape? at hh
            split at hh
            · rename_i c e fr h4; exact ⟨c, e, fr, h4⟩
            · cases hh
          obtain ⟨c, e'', fr, h4⟩ := hcells
          obtain ⟨g1, g2⟩ := mark_inv (s := n) hI h4 h1 h3
          refine ⟨.slice (some ⟨k, s, none⟩) m cap, _, β, .inl ?_, g1, g2, h.stp g2⟩
          simp [execOp, ho, hv, convert, run_underlying ht, run_underlying he, markStringish, hh]
    · cases hb
  · cases hb

theorem aop_sound (hI : Inv base w H β) (hA : ∀ x, Rep w H β (A x) (ρ x)) {r : AV} {H' : List Box} (h : aop P o.type base A H o.op = some (r, H')) : Does P ρ o base w H β r H' := by
  have hA' : ∀ x, Rep w H β (unlit (A x)) (ρ x) := fun x => unlit_rep (hA x)
  unfold aop at h
  split at h
  · rename_i t n ps ho
    cases hc : constParts ps with
    | false =>
      rw [hc, cond_false] at h
      exact aopU_sound hI hA' (by rw [ho]; exact h)
    | true =>
      rw [hc, cond_true] at h
      obtain ⟨⟨r1, H1⟩, h1, h2⟩ := Option.map_eq_some_iff.1 h
      obtain ⟨h3, rfl⟩ := withH_some h1
      obtain ⟨v, w', β', g1, g2, g3, g4, g5⟩ := does_buildSlice hI hA' ho h3
      unfold relit at h2
      split at h2
      · rename_i sz gs H2 heq
        injection heq with e1 e2
        injection h2 with e3 e4
        subst e1; subst e2; subst e3; subst e4
        exact ⟨v, w', β', .inl g1, g2, g3, g5 _ _ rfl⟩
      · injection h2 with e3 e4
        subst e3; subst e4
        exact ⟨v, w', β', .inl g1, g2, g3, g4⟩
  · rename_i s d x ho
    cases hc : litConv P base s d (A x) with
    | false =>
      rw [hc, cond_false] at h
      exact aopU_sound hI hA' (by rw [ho]; exact h)
    | true =>
      rw [hc, cond_true] at h
      injection h with h
      injection h with e1 e2
      subst e1; subst e2
      have hx := hA x
      unfold litConv at hc
      split at hc
      · rename_i n sz gs hAx
        simp only [Bool.and_eq_true, beq_iff_eq] at hc
        obtain ⟨rfl, rfl, hb⟩ := hc
        rw [hAx] at hx ⊢
        exact does_litConv hI ho hx hb
      · cases hc
  · exact aopU_sound hI hA' h
end

end Go.Proofs.YtjkdahpoalnjjaaDoor.VL

/- The value logic, part 9: states, calls, what code does. -/
set_option linter.unusedVariables false
set_option linter.unusedSimpArgs false
namespace Go.Proofs.YtjkdahpoalnjjaaDoor.VL
open Go Go.RowKit Go.Lib

/-! ### States -/
structure ASt where
  tmps : List (Nat × AV)
  H : List Box

def lk : List (Nat × AV) → Nat → AV
  | [], _ => .dead
  | (k, v) :: r, n => bif k == n then v else lk r n
theorem lk_cons (k : Nat) (v : AV) (r : List (Nat × AV)) (n : Nat) : lk ((k, v) :: r) n = if k = n then v else lk r n := by
  by_cases h : k = n
  · simp [lk, h]
  · have : (k == n) = false := by simp [h]
    simp [lk, h, this]
def put (l : List (Nat × AV)) : Option Tmp → AV → List (Nat × AV)
  | some d, v => (d, v) :: l
  | none, _ => l
theorem lk_put_same (l : List (Nat × AV)) (d : Nat) (v : AV) : lk (put l (some d) v) d = v := by simp [put, lk_cons]
theorem lk_put_ne (l : List (Nat × AV)) {d n : Nat} (v : AV) (h : d ≠ n) : lk (put l (some d) v) n = lk l n := by simp [put, lk_cons, h]

def cst : Value → AV
  | .agg cs => .agg (cs.toList.map zcell)
  | x => zcell x
theorem rep_cst {w : World} {H : List Box} {β : Pl} (x : Value) : Rep w H β (cst x) x := by
  unfold cst
  split
  · rename_i cs
    refine .agg _ _ (by simp) fun i c x h1 h2 => ?_
    simp only [List.getElem?_map, Array.getElem?_toList, h2, Option.map_some, Option.some.injEq] at h1
    subst h1
    exact rep_zcell x
  · exact rep_zcell _

/-- The address of a package variable: of a row that is only read, where the text lays it. -/
def glb (g : Nat) : AV := match gvals g with
  | [] => .v (.pointer (some ⟨g, 0, none⟩))
  | v :: r => .elt (.v v :: r.map .v) 0
theorem rep_glb {base : Nat} {w : World} {H : List Box} {β : Pl} (hI : Inv base w H β) (g : Nat) : Rep w H β (glb g) (.pointer (some ⟨g, 0, none⟩)) := by
  unfold glb
  split
  · exact .v _
  · rename_i v r h
    have hget : ∀ (j : Nat) (c : AV), (AV.v v :: r.map .v)[j]? = some c → ∃ y, (gvals g)[j]? = some y ∧ c = .v y := fun j c hj => by
      rw [← List.map_cons (f := AV.v), List.getElem?_map, ← h] at hj
      obtain ⟨y, h1, h2⟩ := Option.map_eq_some_iff.1 hj
      exact ⟨y, h1, h2.symm⟩
    refine .elt _ 0 g 0 (fun j => ((gvals g)[j]?).getD undef) (fun j c hj => ?_) (fun j c hj => ?_)
    · obtain ⟨y, h1, _⟩ := hget j c hj
      obtain ⟨g1, g2, g3⟩ := hI.bse.glob g j y h1
      rw [Nat.zero_add]
      simp only [h1, Option.getD_some]
      exact ⟨g2, g3, fun hw => by have := hI.low hw; omega⟩
    · obtain ⟨y, h1, rfl⟩ := hget j c hj
      simp only [h1, Option.getD_some]
      exact .v _
def aeval (l : List (Nat × AV)) : Operand → AV
  | .tmp t => lk l t
  | .const v => cst v
  | .global g => glb g
  | .func f => .fn f []

/-- Where a function began: what it may not touch, how many slots it has, the world and the boxes of its caller. -/
structure Ent where
  base : Nat
  n : Nat
  w : World
  H : List Box
  β : Pl
  inv : Inv base w H β
  ds : List Deferred

/-- A state of the model is what an abstract one says. -/
structure SimB (E : Ent) (σ : ASt) (β : Pl) (a : Act) (w : World) : Prop where
  defers : a.defers = E.ds
  size : a.tmps.size = E.n
  inv : Inv E.base w σ.H β
  stp : Stp E.base E.w E.H E.β w σ.H β
  tmps : ∀ k, Rep w σ.H β (lk σ.tmps k) (a.tmps.getD k undef)
def Sim (E : Ent) (σ : ASt) (a : Act) (w : World) : Prop := ∃ β, SimB E σ β a w

theorem SimB.eval {E : Ent} {σ : ASt} {β : Pl} {a : Act} {w : World} (h : SimB E σ β a w) (x : Operand) : Rep w σ.H β (aeval σ.tmps x) (a.eval x) := by
  cases x with
  | tmp t => exact h.tmps t
  | const v => exact rep_cst v
  | global g => exact rep_glb h.inv g
  | func f => exact .fn f [] #[] rfl (by simp)

def dstOk (E : Ent) : Option Tmp → Prop
  | some d => d < E.n
  | none => True

theorem SimB.put {E : Ent} {σ : ASt} {β β' : Pl} {a : Act} {w w' : World} {H' : List Box} (h : SimB E σ β a w) (d : Option Tmp) (hd : dstOk E d) {r : AV} {v : Value} (hI : Inv E.base w' H' β') (hs : Stp E.base w σ.H β w' H' β') (hr : Rep w' H' β' r v) :
    SimB E ⟨VL.put σ.tmps d r, H'⟩ β' (a.put d v) w' := by
  refine ⟨?_, ?_, hI, h.stp.trans hs, fun k => ?_⟩
  · cases d <;> exact h.defers
  · cases d with
    | none => exact h.size
    | some d => simp [Act.put, h.size]
  · cases d with
    | none => exact (h.tmps k).stp hs
    | some d =>
      simp only [dstOk] at hd
      by_cases hk : d = k
      · subst hk
        rw [lk_put_same]
        have : (a.put (some d) v).tmps.getD d undef = v := by
          simp [Act.put, h.size, hd]
        rw [this]
        exact hr
      · rw [lk_put_ne _ _ hk]
        have : (a.put (some d) v).tmps.getD k undef = a.tmps.getD k undef := by
          simp [Act.put, Array.getElem?_setIfInBounds_ne hk]
        rw [this]
        exact (h.tmps k).stp hs

/-! ### Calls -/
inductive Out where
  | ret (r : AV)
  | pan (r : AV)

def EndRep (w : World) (H : List Box) (β : Pl) : Ending → Out → Prop
  | .returned v, .ret r => Rep w H β r v
  | .panicked chain, .pan r => ∃ v, chain = [{ v, recovered := false }] ∧ Rep w H β r v
  | _, _ => False

def Reps (w : World) (H : List Box) (β : Pl) (cs : List AV) (vs : Array Value) : Prop := cs.length = vs.size ∧ ∀ (i : Nat) (c : AV) (x : Value), cs[i]? = some c → vs[i]? = some x → Rep w H β c x

def enters (P : Program) (f : FuncId) : Prop := ∀ (args : Array Value) (w : World), (callFunc f args).run P w = .ok (.enter f args) w

/-- A call of a function: one with a body is entered; one without yields a value. -/
def Invokes (P : Program) (f : FuncId) (vs : Array Value) (w : World) (Q : Ending → World → Prop) : Prop :=
  ((callFunc f vs).run P w = .ok (.enter f vs) w ∧ Calls P f vs w Q) ∨ ∃ v w', (callFunc f vs).run P w = .ok (.value v) w' ∧ Q (.returned v) w'
theorem Invokes.mono {P : Program} {f : FuncId} {vs : Array Value} {w : World} {Q Q' : Ending → World → Prop} (h : Invokes P f vs w Q) (hq : ∀ e w', Q e w' → Q' e w') : Invokes P f vs w Q' := by
  rcases h with ⟨h1, h2⟩ | ⟨v, w', h1, h2⟩
  · exact .inl ⟨h1, h2.mono hq⟩
  · exact .inr ⟨v, w', h1, hq _ _ h2⟩
/-- A call's outcome is one that K takes. -/
def acall (P : Program) (base : Nat) (f : FuncId) (args : List AV) (H : List Box) (K : Out → List Box → Prop) : Prop :=
  ∀ (w : World) (β : Pl) (vs : Array Value), Inv base w H β → Reps w H β args vs →
    Invokes P f vs w (fun e w' => ∃ out H' β', K out H' ∧ EndRep w' H' β' e out ∧ Inv base w' H' β' ∧ Stp base w H β w' H' β')

theorem acall.mono {P : Program} {base : Nat} {f : FuncId} {args : List AV} {H : List Box} {K K' : Out → List Box → Prop} (h : acall P base f args H K) (hK : ∀ o H', K o H' → K' o H') : acall P base f args H K' :=
  fun w β vs hI hr => (h w β vs hI hr).mono fun e w' ⟨out, H', β', h1, h2⟩ => ⟨out, H', β', hK _ _ h1, h2⟩

/-- The contract of a function, whoever calls it. -/
def ASpec (P : Program) (f : FuncId) (args : List AV) (H : List Box) (K : Out → List Box → Prop) : Prop := ∀ base, acall P base f args H K

theorem ASpec.use {P : Program} {base : Nat} {f : FuncId} {args : List AV} {H : List Box} {K K' : Out → List Box → Prop} (h : ASpec P f args H K) (hK : ∀ o H', K o H' → K' o H') : acall P base f args H K' := (h base).mono hK

/-! ### Operations in a row -/
inductive AExit where
  | normal
  | exit (id : Nat)
  | goto (l : Nat)
  | ret
  | panic (r : AV)

def lift (E : Ent) (Q : AExit → ASt → Prop) : Exit → Act → World → Prop
  | .normal, a, w => ∃ σ, Q .normal σ ∧ Sim E σ a w
  | .exit id, a, w => ∃ σ, Q (.exit id) σ ∧ Sim E σ a w
  | .goto l, a, w => ∃ σ, Q (.goto l) σ ∧ Sim E σ a w
  | .ret, a, w => ∃ σ, Q .ret σ ∧ Sim E σ a w
  | .panic chain, a, w => ∃ σ r v β, Q (.panic r) σ ∧ chain = [{ v, recovered := false }] ∧ SimB E σ β a w ∧ Rep w σ.H β r v
  | .outgrown, _, _ => False

/-- What an operation of the region has yielded, as its guard's users see it. -/
def aflag : AV → Option (Option Bool)
  | .v (.bool b) => some (some b)
  | .v (.tuple _) => some none
  | _ => none
def ayield (ops : Array Oper) (l : List (Nat × AV)) (j : Nat) : Option (Option Bool) :=
  match (ops[j]?).bind (·.dst) with
  | some d => aflag (lk l d)
  | none => none
theorem yielded_flag {w : World} {H : List Box} {β : Pl} {x : AV} {y : Option Bool} {ops : Array Oper} {tmps : Array Value} {j d : Nat} (hd : (ops[j]?).bind (·.dst) = some d) (hr : Rep w H β x (tmps.getD d undef)) (h : aflag x = some y) : yielded ops tmps j = y := by
  unfold yielded
  rw [hd]
  unfold aflag at h
  split at h
  · rename_i b
    injection h with h
    subst h
    simp only [Option.bind_some]
    cases hq : tmps[d]? with
    | none =>
      have hu : tmps.getD d undef = undef := by simp [hq]
      rw [hu] at hr
      cases hr
    | some v =>
      have hu : tmps.getD d undef = v := by simp [hq]
      rw [hu] at hr
      cases hr
      rfl
  · rename_i a
    injection h with h
    subst h
    simp only [Option.bind_some]
    cases hq : tmps[d]? with
    | none => rfl
    | some v =>
      have hu : tmps.getD d undef = v := by simp [hq]
      rw [hu] at hr
      cases hr
      rfl
  · cases h

/-- May a slice be nil? Only an empty one. -/
def nilIf (H : List Box) : AV → Option (Bool → Prop)
  | .lst _ gs => some fun t => t = true → gs = []
  | .emp => some fun _ => True
  | .sl b g _ n _ _ => if live H b g then some fun t => t = true → n = 0 else none
  | _ => none
def isSl (P : Program) (t : TypeId) : Bool := match P.underlying t with | some (.slice _) => true | _ => false

/-- One operation, whatever its guard, and what is asked of the state behind it. -/
def aone (P : Program) (E : Ent) (Q : AExit → ASt → Prop) (o : Oper) (K : ASt → Prop) (σ : ASt) : Prop :=
  dstOk E o.dst ∧
  match o.op with
  | .call { callee := .value f, args, .. } =>
    match aeval σ.tmps f with
    | .fn fid caps => acall P E.base fid (args.toList.map (fun x => unlit (aeval σ.tmps x)) ++ caps) σ.H fun out H' =>
        match out with
        | .ret r => K ⟨put σ.tmps o.dst r, H'⟩
        | .pan r => Q (.panic r) ⟨σ.tmps, H'⟩
    | _ => False
  | .binOp .eql t x (.const (.slice none 0 0)) _ =>
    isSl P t = true ∧ match nilIf σ.H (unlit (aeval σ.tmps x)) with
    | some C => ∀ t : Bool, C t → K ⟨put σ.tmps o.dst (.v (.bool t)), σ.H⟩
    | none => False
  | .panic x => match aeval σ.tmps x with
    | .v (.iface t v) => Q (.panic (.v (.iface t v))) σ
    | _ => False
  | op =>
    match aop P o.type E.base (aeval σ.tmps) σ.H op with
    | some (r, H') => K ⟨put σ.tmps o.dst r, H'⟩
    | none => False

/-- An operation's two ways. -/
def Branch {α : Type} (t want : Bool) (x : α) (A B : α → Prop) : Prop := (t = want → A x) ∧ (¬ t = want → B x)
theorem branch_tt {α : Type} (x : α) (A B : α → Prop) : Branch true true x A B = A x := by simp [Branch]
theorem branch_ff {α : Type} (x : α) (A B : α → Prop) : Branch false false x A B = A x := by simp [Branch]
theorem branch_tf {α : Type} (x : α) (A B : α → Prop) : Branch true false x A B = B x := by simp [Branch]
theorem branch_ft {α : Type} (x : α) (A B : α → Prop) : Branch false true x A B = B x := by simp [Branch]
theorem Branch.split {α : Type} {t want : Bool} {x : α} {A B : α → Prop} (h1 : t = want → A x) (h2 : t = !want → B x) : Branch t want x A B := ⟨h1, fun h => h2 (by cases t <;> cases want <;> simp_all)⟩
/-- An operation is passed by. -/
def askip (E : Ent) (o : Oper) (K : ASt → Prop) (σ : ASt) : Prop := dstOk E o.dst ∧ K ⟨put σ.tmps o.dst (.v undef), σ.H⟩

/-- Operations in the text's order. -/
def aops (P : Program) (E : Ent) (ops : Array Oper) (Q : AExit → ASt → Prop) : List Oper → ASt → Prop
  | [], σ => Q .normal σ
  | o :: rest, σ =>
    match o.guard with
    | none => aone P E Q o (aops P E ops Q rest) σ
    | some (j, want) => match ayield ops σ.tmps j with
      | some (some t) => Branch t want σ (aone P E Q o (aops P E ops Q rest)) (askip E o (aops P E ops Q rest))
      | some none => askip E o (aops P E ops Q rest) σ
      | none => False

theorem yield_sim {E : Ent} {σ : ASt} {β : Pl} {a : Act} {w : World} (h : SimB E σ β a w) {ops : Array Oper} {j : Nat} {t : Option Bool} (hy : ayield ops σ.tmps j = some t) : yielded ops a.tmps j = t := by
  unfold ayield at hy
  cases hd : (ops[j]?).bind (·.dst) with
  | none => rw [hd] at hy; cases hy
  | some d => rw [hd] at hy; exact yielded_flag hd (h.tmps d) hy

theorem resolve_fn {P : Program} {w w' : World} {ρ : Operand → Value} {f : Operand} {args : Array Operand} {ts : Array TypeId} {t : TypeId} {fid : FuncId} {caps : Array Value} {n : Next} (hf : ρ f = .func (.func fid) #[] caps) (hen : (callFunc fid (args.map ρ ++ caps)).run P w = .ok n w') :
    ((do let d ← resolve ρ { callee := .value f, args, argTypes := ts } t; invoke d.target d.args : Sem Next)).run P w = .ok n w' := by
  simp [resolve, hf, Deferred.ofValue, invoke, hen]
/-- An operation that calls. -/
theorem call_upon {P : Program} {o : Oper} {ρ : Operand → Value} {w : World} {a : Act} {f : Operand} {args : Array Operand} {ts : Array TypeId} {fid : FuncId} {caps : Array Value} {K' : Act → World → Prop} {Q' : Exit → Act → World → Prop} {R : Ending → World → Prop}
    (ho : o.op = .call { callee := .value f, args, argTypes := ts }) (hf : ρ f = .func (.func fid) #[] caps) (h : Invokes P fid (args.map ρ ++ caps) w R)
    (hr : ∀ v w', R (.returned v) w' → K' (a.put o.dst v) w') (hp : ∀ c w', R (.panicked c) w' → Q' (.panic c) a w') (hx : ∀ w', ¬ R .outgrown w') :
    o.upon P a K' Q' ((execOp ρ o).run P w) := by
  rcases h with ⟨h1, h2⟩ | ⟨v, w', h1, h2⟩
  · have hrun : (execOp ρ o).run P w = .ok (.enter fid (args.map ρ ++ caps)) w := by
      unfold execOp
      rw [ho]
      exact resolve_fn hf h1
    rw [hrun, Oper.upon_enter]
    refine h2.mono fun e w' he => ?_
    cases e with
    | returned v => exact hr v w' he
    | panicked c => exact hp c w' he
    | outgrown => exact absurd he (hx w')
  · have hrun : (execOp ρ o).run P w = .ok (.value v) w' := by
      unfold execOp
      rw [ho]
      exact resolve_fn hf h1
    rw [hrun, Oper.upon_value]
    exact hr v w' h2

theorem run_equal_nil {P : Program} {w : World} {t : TypeId} (h : isSl P t = true) (a : Option Addr) (n c : Nat) : (Op.equal t (.slice a n c) (.slice none 0 0)).run P w = .ok a.isNone w := by
  unfold isSl at h
  split at h
  · rename_i e hu
    have : (Op.equalIn (9999 + 1) t (.slice a n c) (.slice none 0 0)).run P w = .ok a.isNone w := by
      rw [Op.equalIn]
      cases a <;> simp only [Sem.run_bind, run_underlying hu, Result.andThen_ok, Sem.run_pure, Option.isNone]
    exact this
  · cases h
theorem nilIf_rep {w : World} {H : List Box} {β : Pl} {x : AV} {v : Value} {C : Bool → Prop} (h : nilIf H x = some C) (hr : Rep w H β x v) : ∃ a n c, v = .slice a n c ∧ C a.isNone := by
  unfold nilIf at h
  split at h
  · injection h with h
    subst h
    cases hr with
    | lst0 _ a cap => exact ⟨a, 0, cap, rfl, fun _ => rfl⟩
    | lst _ gs k s cap y hn hg hc hrr => exact ⟨_, _, _, rfl, fun h => by simp at h⟩
  · injection h with h
    subst h
    cases hr with
    | emp a => exact ⟨a, 0, 0, rfl, trivial⟩
  · split at h
    · rename_i hl
      injection h with h
      subst h
      obtain ⟨bx, h1, h2, a, cap, rfl, h4, h5, h6⟩ := live_sl hl hr
      refine ⟨a, _, cap, rfl, fun h => ?_⟩
      rcases Nat.eq_zero_or_pos cap with h0 | h0
      · omega
      · obtain ⟨k, s, c, e, fr, f1, f2, _⟩ := h6 h0
        subst f2
        simp at h
    · cases h
  · cases h

theorem aone_sound {P : Program} {E : Ent} {Q : AExit → ASt → Prop} {o : Oper} {K : ASt → Prop} {σ : ASt} (h : aone P E Q o K σ) {a : Act} {w : World} {β : Pl} (hs : SimB E σ β a w) {K' : Act → World → Prop} (hK : ∀ σ' a' w', K σ' → Sim E σ' a' w' → K' a' w') :
    o.wp P a w K' (lift E Q) := by
  obtain ⟨hd, h⟩ := h
  unfold Oper.wp
  have plain : ∀ r H', aop P o.type E.base (aeval σ.tmps) σ.H o.op = some (r, H') → K ⟨put σ.tmps o.dst r, H'⟩ → o.upon P a K' (lift E Q) ((execOp a.eval o).run P w) := fun r H' hop hk => by
    obtain ⟨v, w', β', hrun, hI', hst, hr⟩ := aop_sound (P := P) hs.inv hs.eval hop
    rcases hrun with hrun | ⟨hrun, rfl⟩
    · rw [hrun, Oper.upon_value]
      exact hK _ _ _ hk ⟨β', hs.put o.dst hd hI' hst hr⟩
    · rw [hrun, Oper.upon_skip]
      exact hK _ _ _ hk ⟨β', hs.put o.dst hd hI' hst hr⟩
  split at h
  · rename_i f args ts ho
    split at h
    · rename_i fid caps hf
      have hfr := hs.eval f
      rw [hf] at hfr
      generalize hv : a.eval f = fv at hfr
      cases hfr with
      | fn _ _ vs hl hr =>
        refine call_upon ho hv (h w β _ hs.inv ⟨by simp [hl], fun i c x h1 h2 => ?_⟩) ?_ ?_ ?_
        · by_cases hi : i < args.size
          · rw [List.getElem?_append_left (by simpa using hi)] at h1
            rw [Array.getElem?_append_left (by simpa using hi)] at h2
            simp only [List.getElem?_map, Array.getElem?_toList, Array.getElem?_eq_getElem hi, Option.map_some, Option.some.injEq] at h1
            simp only [Array.getElem?_map, Array.getElem?_eq_getElem hi, Option.map_some, Option.some.injEq] at h2
            subst h1; subst h2
            exact unlit_rep (hs.eval _)
          · rw [List.getElem?_append_right (by simp; omega)] at h1
            rw [Array.getElem?_append_right (by simp; omega)] at h2
            simp only [List.length_map, Array.length_toList] at h1
            simp only [Array.size_map] at h2
            exact hr _ c x h1 h2
        · rintro v w' ⟨out, H', β', k1, k2, k3, k4⟩
          cases out with
          | ret r => exact hK _ _ _ k1 ⟨β', hs.put o.dst hd k3 k4 k2⟩
          | pan r => exact k2.elim
        · rintro c w' ⟨out, H', β', k1, k2, k3, k4⟩
          cases out with
          | ret r => exact k2.elim
          | pan r =>
            obtain ⟨v, e1, e2⟩ := k2
            have := hs.put none trivial k3 k4 e2
            exact ⟨_, r, v, β', k1, e1, this, e2⟩
        · rintro w' ⟨out, H', β', k1, k2, k3, k4⟩
          cases out <;> exact k2.elim
    · exact h.elim
  · rename_i t x yt ho
    obtain ⟨hsl, h⟩ := h
    split at h
    · rename_i C hC
      obtain ⟨a', n, c, hv, hc⟩ := nilIf_rep hC (unlit_rep (hs.eval x))
      have hrun : (execOp a.eval o).run P w = .ok (.value (.bool a'.isNone)) w := by
        have hcn : a.eval (.const (.slice none 0 0)) = .slice none 0 0 := rfl
        have hgd : ∀ w, (eqGuard .eql t x (.const (.slice none 0 0)) (.slice a' n c) (.slice none 0 0)).run P w = .ok () w := fun _ => rfl
        have hbo : (Go.binOp .eql t (.slice a' n c) (.slice none 0 0)).run P w = .ok (.bool a'.isNone) w := by
          simp only [Go.binOp, Sem.run_bind, run_equal_nil hsl, Result.andThen_ok, Sem.run_pure]
        simp only [execOp, ho, hv, hcn, Sem.run_bind, hgd, hbo, Result.andThen_ok, Sem.run_pure]
      rw [hrun, Oper.upon_value]
      exact hK _ _ _ (h _ hc) ⟨β, hs.put o.dst hd hs.inv (Stp.refl _ _ _) (.v _)⟩
    · exact h.elim
  · rename_i x ho
    split at h
    · rename_i t v hx
      have hr := hs.eval x
      rw [hx] at hr
      generalize hv : a.eval x = fv at hr
      cases hr
      have hrun : (execOp a.eval o).run P w = .halt (.panic (.iface t v)) w := by
        simp [execOp, ho, hv]; rfl
      rw [hrun]
      exact ⟨σ, _, _, β, h, rfl, hs, .v _⟩
    · exact h.elim
  · split at h
    · rename_i r H' hop
      exact plain r H' hop h
    · exact h.elim

theorem aops_sound {P : Program} {E : Ent} {ops : Array Oper} {Q : AExit → ASt → Prop} : ∀ (l : List Oper) (σ : ASt), aops P E ops Q l σ → ∀ (a : Act) (w : World), Sim E σ a w → wpList P ops (lift E Q) l a w := by
  intro l
  induction l with
  | nil => intro σ h a w hs; exact ⟨σ, h, hs⟩
  | cons o rest ih =>
    intro σ h a w hs
    obtain ⟨β, hs⟩ := hs
    simp only [aops] at h
    unfold wpList
    split at h
    · rename_i hg
      rw [if_pos (by simp [Region.wanted, hg])]
      exact .inl (aone_sound h hs fun σ' a' w' k s => ih σ' k a' w' s)
    · rename_i j want hg
      split at h
      · rename_i t hy
        have hyy := yield_sim hs hy
        by_cases ht : t = want
        · rw [if_pos (by simp [Region.wanted, hg, hyy, ht])]
          exact .inl (aone_sound (h.1 ht) hs fun σ' a' w' k s => ih σ' k a' w' s)
        · rw [if_neg (by simp [Region.wanted, hg, hyy, ht])]
          obtain ⟨h1, h2⟩ := h.2 ht
          exact ih _ h2 _ _ ⟨β, hs.put o.dst h1 hs.inv (Stp.refl _ _ _) (.v _)⟩
      · rename_i hy
        have hyy := yield_sim hs hy
        rw [if_neg (by simp [Region.wanted, hg, hyy])]
        obtain ⟨h1, h2⟩ := h
        exact ih _ h2 _ _ ⟨β, hs.put o.dst h1 hs.inv (Stp.refl _ _ _) (.v _)⟩
      · exact h.elim

/-! ### Code -/
def AWP (P : Program) (E : Ent) (c : Code) (Q : AExit → ASt → Prop) (σ : ASt) : Prop := ∀ a w, Sim E σ a w → c.wp P (lift E Q) a w

section rules
variable {P : Program} {E : Ent} {Q : AExit → ASt → Prop} {σ : ASt}

theorem AWP.region {id : Nat} {ops : Array Oper} (h : aops P E ops Q ops.toList σ) : AWP P E (.region id ops false) Q σ := fun a w hs => wp_region_list (aops_sound _ _ h a w hs)

def AExit.then (N : ASt → Prop) (Q : AExit → ASt → Prop) : AExit → ASt → Prop
  | .normal, σ => N σ
  | e, σ => Q e σ
theorem lift_mono {Q Q' : AExit → ASt → Prop} (h : ∀ e σ, Q e σ → Q' e σ) {e : Exit} {a : Act} {w : World} (hl : lift E Q e a w) : lift E Q' e a w := by
  cases e with
  | panic chain => obtain ⟨σ, r, v, β, h1, h2⟩ := hl; exact ⟨σ, r, v, β, h _ _ h1, h2⟩
  | outgrown => exact hl
  | _ => obtain ⟨σ, h1, h2⟩ := hl; exact ⟨σ, h _ _ h1, h2⟩
theorem AWP.mono {c : Code} {Q Q' : AExit → ASt → Prop} (h : AWP P E c Q σ) (hq : ∀ e σ, Q e σ → Q' e σ) : AWP P E c Q' σ := fun a w hs => wp_mono (h a w hs) fun _ _ _ hl => lift_mono hq hl

theorem AWP.seq {x y : Code} (h : AWP P E x (AExit.then (AWP P E y Q) Q) σ) : AWP P E (.seq x y) Q σ := fun a w hs => by
  refine wp_seq (wp_mono (h a w hs) fun e a' w' hl => ?_)
  cases e with
  | normal => obtain ⟨σ', h1, h2⟩ := hl; exact h1 a' w' h2
  | panic chain => exact hl
  | outgrown => exact hl
  | _ => exact hl
theorem AWP.skip (h : Q .normal σ) : AWP P E .skip Q σ := fun a w hs => wp_skip ⟨σ, h, hs⟩
theorem AWP.label {l : Nat} (h : Q .normal σ) : AWP P E (.label l) Q σ := fun a w hs => wp_label ⟨σ, h, hs⟩
theorem AWP.exit {id : Nat} (h : Q (.exit id) σ) : AWP P E (.exit id) Q σ := fun a w hs => wp_exit ⟨σ, h, hs⟩
theorem AWP.goto {l : Nat} (h : Q (.goto l) σ) : AWP P E (.goto l) Q σ := fun a w hs => wp_goto ⟨σ, h, hs⟩
theorem AWP.ret (h : Q .ret σ) : AWP P E .ret Q σ := fun a w hs => wp_ret ⟨σ, h, hs⟩
theorem AWP.cond {c : Operand} {x y : Code} {t : Bool} (hc : aeval σ.tmps c = .v (.bool t)) (ht : t = true → AWP P E x Q σ) (hf : t = false → AWP P E y Q σ) : AWP P E (.cond c x y) Q σ := fun a w hs => by
  obtain ⟨β, hb⟩ := hs
  have := hb.eval c
  rw [hc] at this
  generalize hv : a.eval c = v at this
  cases this
  exact wp_cond_split hv (fun h => ht h a w ⟨β, hb⟩) (fun h => hf h a w ⟨β, hb⟩)
def AExit.inBlock (id : Nat) (Q : AExit → ASt → Prop) : AExit → ASt → Prop
  | .exit id', σ => if id' = id then Q .normal σ else Q (.exit id') σ
  | e, σ => Q e σ
theorem AWP.block {id : Nat} {c : Code} (h : AWP P E c (AExit.inBlock id Q) σ) : AWP P E (.block id c) Q σ := fun a w hs => by
  refine wp_block (wp_mono (h a w hs) fun e a' w' hl => ?_)
  cases e with
  | exit id' =>
    obtain ⟨σ', h1, h2⟩ := hl
    simp only [AExit.inBlock] at h1
    simp only [Exit.inBlock]
    split at h1
    · rename_i hh; rw [if_pos hh]; exact ⟨σ', h1, h2⟩
    · rename_i hh; rw [if_neg hh]; exact ⟨σ', h1, h2⟩
  | normal => exact hl
  | goto l => exact hl
  | ret => exact hl
  | panic chain => exact hl
  | outgrown => exact hl

/-- A state may be forgotten for another one. -/
def Coe (E : Ent) (σ σ' : ASt) : Prop := ∀ a w, Sim E σ a w → Sim E σ' a w
theorem Coe.refl (E : Ent) (σ : ASt) : Coe E σ σ := fun _ _ h => h
theorem Coe.trans {E : Ent} {σ σ' σ'' : ASt} (h : Coe E σ σ') (h' : Coe E σ' σ'') : Coe E σ σ'' := fun a w hs => h' a w (h a w hs)
theorem AWP.coe {c : Code} {σ' : ASt} (hc : Coe E σ σ') (h : AWP P E c Q σ') : AWP P E c Q σ := fun a w hs => h a w (hc a w hs)

def Keeps (l l' : List (Nat × AV)) : Prop := ∀ p ∈ l', lk l p.1 = p.2
theorem lk_keep {l l' : List (Nat × AV)} (h : Keeps l l') (k : Nat) : lk l' k = lk l k ∨ lk l' k = .dead := by
  induction l' with
  | nil => exact .inr rfl
  | cons p r ih =>
    obtain ⟨n, v⟩ := p
    simp only [lk_cons]
    split
    · rename_i hk
      subst hk
      exact .inl (h (n, v) (by simp)).symm
    · exact ih fun q hq => h q (by simp [hq])
theorem Coe.keep {l l' : List (Nat × AV)} {H : List Box} (h : Keeps l l') : Coe E ⟨l, H⟩ ⟨l', H⟩ := fun a w ⟨β, hs⟩ => ⟨β, ⟨hs.defers, hs.size, hs.inv, hs.stp, fun k => by
  rcases lk_keep h k with hk | hk
  · rw [hk]; exact hs.tmps k
  · rw [hk]; exact .dead _⟩⟩

/-- A loop, by an invariant: states that hang on a ghost. -/
theorem AWP.loop {ι : Type} {c : Code} (S : ι → ASt) (μ : ι → Nat) (i : ι) (h0 : Coe E σ (S i))
    (round : ∀ i, AWP P E c (AExit.then (fun σ' => ∃ i', Coe E σ' (S i') ∧ μ i' < μ i) Q) (S i)) : AWP P E (.loop c) Q σ := fun a w hs => by
  refine wp_loop_ghost (fun n a w => ∃ i, μ i = n ∧ Sim E (S i) a w) (μ i) ⟨i, rfl, h0 a w hs⟩ fun n a w ⟨i, hi, hs⟩ => ?_
  refine wp_mono (round i a w hs) fun e a' w' hl => ?_
  cases e with
  | normal =>
    obtain ⟨σ', ⟨i', hco, hlt⟩, hs'⟩ := hl
    exact ⟨μ i', by omega, i', rfl, hco _ _ hs'⟩
  | panic chain => exact hl
  | outgrown => exact hl
  | _ => exact hl

end rules
end Go.Proofs.YtjkdahpoalnjjaaDoor.VL

/- The value logic, part 6b: cells that are only read from now on; bytes of one's own as a string. -/
import Derived.Test.YtkkhbmpcpilmfaaDoorVLOps4
import Derived.Test.YtkkhbmpcpilmfaaDoorVLShare
set_option linter.unusedVariables false
set_option linter.unusedSimpArgs false
namespace Go.Proofs.YtkkhbmpcpilmfaaDoor.VL
open Go Go.RowKit Go.Lib

/-- A box whose first cells are only read from now on. -/
theorem freeze_inv {base : Nat} {w : World} {H : List Box} {β : Pl} {b m : Nat} {bx : Box} (hI : Inv base w H β) (hb : H[b]? = some bx) (hm : m ≤ bx.cells.length) :
    Inv base w (H.set b { bx with ro := max bx.ro m }) β ∧ Stp base w H β w (H.set b { bx with ro := max bx.ro m }) β := by
  have hbl : b < H.length := (List.getElem?_eq_some_iff.1 hb).1
  have hget : ∀ i bx1, (H.set b { bx with ro := max bx.ro m })[i]? = some bx1 → (i = b ∧ bx1 = { bx with ro := max bx.ro m }) ∨ (i ≠ b ∧ H[i]? = some bx1) := by
    intro i bx1 h
    by_cases hi : i = b
    · subst hi
      rw [List.getElem?_set_self hbl] at h
      exact .inl ⟨rfl, (Option.some.inj h).symm⟩
    · rw [List.getElem?_set_ne (Ne.symm hi)] at h
      exact .inr ⟨hi, h⟩
  have hwr : ∀ k x, Wr (H.set b { bx with ro := max bx.ro m }) β k x → Wr H β k x := by
    rintro k x ⟨i, bi, s, h1, h2, h3, h4⟩
    rcases hget i bi h1 with ⟨rfl, rfl⟩ | ⟨hi, h1⟩
    · exact ⟨i, bx, s, hb, h2, by dsimp only at h3; have := Nat.le_max_left bx.ro m; omega, h4⟩
    · exact ⟨i, bi, s, h1, h2, h3, h4⟩
  have hst : Stp base w H β w (H.set b { bx with ro := max bx.ro m }) β :=
    ⟨rfl, rfl, rfl, Nat.le_refl _, fun _ c _ fr h => ⟨c, fr, h, rfl, fun _ => rfl, fun h => h⟩, fun _ _ h _ => h, fun _ _ _ _ => rfl, fun k x _ h => hwr k x h, fun i bi hi => by
      by_cases hib : i = b
      · subst hib
        rw [hb] at hi
        obtain rfl := Option.some.inj hi
        exact ⟨_, List.getElem?_set_self hbl, Nat.le_refl _, fun _ => rfl⟩
      · exact ⟨bi, by rw [List.getElem?_set_ne (Ne.symm hib)]; exact hi, Nat.le_refl _, fun _ => rfl⟩⟩
  refine ⟨⟨hI.bse, fun i bi hi => ?_, fun i bi hi hv' => ?_, fun i bi k s hi hl => ?_, fun i bi k s hi hl j c hj => ?_, fun k x h => hI.free k x (hwr k x h), fun i i' bi bi' k s s' x hne hi hi' hl hl' h1 h2 h3 => ?_⟩, hst⟩
  · rcases hget i bi hi with ⟨rfl, rfl⟩ | ⟨_, h⟩
    · exact Nat.max_le.2 ⟨hI.ro _ bx hb, hm⟩
    · exact hI.ro i bi h
  · rcases hget i bi hi with ⟨rfl, rfl⟩ | ⟨hi', h⟩
    · exact hI.virt _ bx hb hv'
    · exact hI.virt i bi h hv'
  · rcases hget i bi hi with ⟨rfl, rfl⟩ | ⟨hi', h⟩
    · exact hI.real _ bx k s hb hl
    · exact hI.real i bi k s h hl
  · rcases hget i bi hi with ⟨rfl, rfl⟩ | ⟨hi', h⟩
    · obtain ⟨x, g1, g0, g2⟩ := hI.cells _ bx k s hb hl j c hj
      exact ⟨x, g1, g0, g2.stp hst⟩
    · obtain ⟨x, g1, g0, g2⟩ := hI.cells i bi k s h hl j c hj
      exact ⟨x, g1, g0, g2.stp hst⟩
  · have hle := Nat.le_max_left bx.ro m
    rcases hget i bi hi with ⟨rfl, rfl⟩ | ⟨hx, h⟩
    · rcases hget i' bi' hi' with ⟨rfl, rfl⟩ | ⟨hx', h'⟩
      · exact absurd rfl hne
      · exact hI.apart i i' bx bi' k s s' x hne hb h' hl hl' (by dsimp only at h1; omega) h2 h3
    · rcases hget i' bi' hi' with ⟨rfl, rfl⟩ | ⟨hx', h'⟩
      · exact hI.apart i i' bi bx k s s' x hne h hb hl hl' h1 h2 h3
      · exact hI.apart i i' bi bi' k s s' x hne h h' hl hl' h1 h2 h3

/-- What a slice over a box's read-only cells reads as. -/
theorem rep_view {base : Nat} {w : World} {H : List Box} {β : Pl} {b g off n sz : Nat} {full : Bool} {v : Value} {bx : Box} (hI : Inv base w H β) (hb : H[b]? = some bx) (hg : bx.gen = g) (hro : off + n * sz ≤ bx.ro) (hr : Rep w H β (.sl b g off n sz full) v) :
    Rep w H β (.lst sz (chunk sz n (bx.cells.drop off))) v := by
  obtain ⟨bx', e1, e2, a, cap, rfl, e4, e5, e6⟩ := live_sl (by simp [live, hb, hg]) hr
  rw [hb] at e1
  obtain rfl := Option.some.inj e1
  have hrl := hI.ro b bx hb
  by_cases hn : n = 0
  · subst hn
    exact .lst0 _ _ _
  · obtain ⟨k, s, c, et, fr, f1, f2, f3, f4⟩ := e6 (by omega)
    subst f2
    have hlen := chunk_length sz n (bx.cells.drop off)
    have hcell : ∀ (i j : Nat) (g : List AV) (c : AV), (chunk sz n (bx.cells.drop off))[i]? = some g → g[j]? = some c → i * sz + j < n * sz ∧ bx.cells[off + (i * sz + j)]? = some c := fun i j g c hi hj => by
      obtain ⟨h1, rfl⟩ := chunk_get _ _ _ _ _ hi
      have hjl := (List.getElem?_eq_some_iff.1 hj).1
      simp only [List.length_take] at hjl
      have : (i + 1) * sz ≤ n * sz := Nat.mul_le_mul_right _ h1
      rw [Nat.add_mul] at this
      rw [List.getElem?_take_of_lt (by omega), List.getElem?_drop, List.getElem?_drop] at hj
      exact ⟨by omega, by rw [← hj]⟩
    have := Rep.lst (w := w) (H := H) (β := β) sz (chunk sz n (bx.cells.drop off)) k (s + off) cap (fun i j => (w.cell? ⟨k, s + off + i * sz + j, none⟩).getD undef) (by rw [hlen]; exact e4)
      (fun i g hi => by
        obtain ⟨h1, rfl⟩ := chunk_get _ _ _ _ _ hi
        simp only [List.length_take, List.length_drop]
        have : (i + 1) * sz ≤ n * sz := Nat.mul_le_mul_right _ h1
        rw [Nat.add_mul] at this
        omega)
      (fun i j g c hi hj => by
        obtain ⟨h1, h2⟩ := hcell i j g c hi hj
        obtain ⟨x, g1, g2, _⟩ := hI.cells b bx k s hb f1 _ c h2
        have e : s + off + i * sz + j = s + (off + (i * sz + j)) := by omega
        rw [e, g1]
        refine ⟨rfl, g2, ?_⟩
        rintro ⟨i', bi, s', a1, a2, a3, a4⟩
        by_cases hib : i' = b
        · subst hib
          rw [hb] at a1
          obtain rfl := Option.some.inj a1
          rw [f1] at a2
          injection a2 with a2
          injection a2 with a5 a6
          omega
        · exact hI.apart i' b bi bx k s' s _ hib a1 hb a2 f1 a3 a4 (by omega) (.inr (by omega)))
      (fun i j g c hi hj => by
        obtain ⟨h1, h2⟩ := hcell i j g c hi hj
        obtain ⟨x, g1, _, g3⟩ := hI.cells b bx k s hb f1 _ c h2
        have e : s + off + i * sz + j = s + (off + (i * sz + j)) := by omega
        rw [e, g1]
        exact g3)
    rwa [hlen] at this


section ops
variable {P : Program} {ρ : Operand → Value} {A : Operand → AV} {o : Oper} {base : Nat} {w : World} {H : List Box} {β : Pl}
theorem run_conv_lst {src dst e : TypeId} {x : Operand} {gs : List (List AV)} {bs : List UInt8} (hx : Rep w H β (.lst 1 gs) (ρ x)) (ho : o.op = .convert src dst x) (hs : P.underlying src = some (.slice e)) (hd : P.underlying dst = some .string) (he : P.underlying e = some (.int .u8))
    (h1 : bytesOf gs = some bs) : (execOp ρ o).run P w = .ok (.value (.string ⟨bs.toArray⟩)) w := by
  obtain ⟨xs, rfl, rfl⟩ := bytesOf_get gs bs h1
  generalize hv : ρ x = v at hx
  generalize hgs : xs.map (fun n => [AV.v (.int .u8 n)]) = gs at hx
  cases hx with
  | lst0 _ a cap =>
    obtain rfl : xs = [] := by cases xs with | nil => rfl | cons _ _ => simp at hgs
    have : (convert src dst (.slice a 0 cap)).run P w = .ok (.string ⟨#[]⟩) w := by
      rw [run_convert_bytes_string w src dst e _ 0 cap hs he hd]
      cases a with
      | none => simp [Conv.bytesToString]; rfl
      | some a => simp [Conv.bytesToString, loadCells, loadCellsFrom]; rfl
    simp only [execOp, ho, hv, Sem.run_bind, this, Result.andThen_ok, Sem.run_pure]
    rfl
  | lst _ _ k s cap y hn hg hc hr =>
    subst hgs
    have hcell : ∀ i, i < xs.length → w.cell? ⟨k, s + i, none⟩ = some (.int .u8 (xs.getD i 0)) := fun i hi => by
      have hgi : (xs.map fun n => [AV.v (.int .u8 n)])[i]? = some [AV.v (.int .u8 xs[i])] := by simp [hi]
      have h1 := (hc i 0 _ _ hgi rfl).1
      have h2 := hr i 0 _ _ hgi rfl
      generalize hy : y i 0 = z at h2 h1
      cases h2
      simpa [hi] using h1
    have := run_convert_bytes_arg (P := P) w src e hs he k s (xs.map fun n => [AV.v (.int .u8 n)]).length cap xs (by simp) (fun i hi => hcell i (by simpa using hi)) dst hd
    simp only [execOp, ho, hv, Sem.run_bind, this, Result.andThen_ok, Sem.run_pure]
    rfl

/-- Conversions; bytes of one's own too. -/
def aconvH (P : Program) (H : List Box) (src dst : TypeId) (x : AV) : Option AV :=
  match x with
  | .sl b g off n 1 _ => match P.underlying src, P.underlying dst with
    | some (.slice e), some .string => match P.underlying e with
      | some (.int .u8) => match H[b]? with
        | some bx => if bx.gen = g ∧ off + n ≤ bx.cells.length then (bytesOf (chunk 1 n (bx.cells.drop off))).map fun bs => .v (.string ⟨bs.toArray⟩) else none
        | none => none
      | _ => none
    | _, _ => none
  | x => aconv P src dst x
theorem does_convertH (hI : Inv base w H β) (hA : ∀ x, Rep w H β (A x) (ρ x)) {src dst : TypeId} {x : Operand} (ho : o.op = .convert src dst x) {r : AV} (h : aconvH P H src dst (A x) = some r) : Does P ρ o base w H β r H := by
  have hx := hA x
  unfold aconvH at h
  split at h
  · rename_i b g off n full hAx
    rw [hAx] at hx
    split at h
    · rename_i e hs hd
      split at h
      · rename_i he
        split at h
        · rename_i bx hb
          split at h
          · rename_i hc
            obtain ⟨hg, hfit⟩ := hc
            obtain ⟨bs, h1, rfl⟩ := Option.map_eq_some_iff.1 h
            obtain ⟨i1, i2⟩ := freeze_inv (m := off + n * 1) hI hb (by omega)
            have hbl : b < H.length := (List.getElem?_eq_some_iff.1 hb).1
            have hv := rep_view (bx := { bx with ro := max bx.ro (off + n * 1) }) i1 (List.getElem?_set_self hbl) hg (Nat.le_max_right _ _) (hx.stp i2)
            exact .same hI (run_conv_lst hv ho hs hd he h1) (.v _)
          · cases h
        · cases h
      · cases h
    · cases h
  · exact does_convert hI hA ho h
end ops

end Go.Proofs.YtkkhbmpcpilmfaaDoor.VL

/- The value logic, part 13: new rows that are only read from then on; rows handed on to be read. -/
import Derived.Test.YtkkhbmpcpilmfaaDoorVLTac
set_option linter.unusedVariables false
set_option linter.unusedSimpArgs false
namespace Go.Proofs.YtkkhbmpcpilmfaaDoor.VL
open Go Go.RowKit Go.Lib

/-- The new box of a slice is forgotten: the slice is only read from now on. -/
theorem Shed.froz {E : Ent} {N : List Box} {b g off n sz : Nat} {full : Bool} {bx : Box} (hb : (E.H ++ N)[b]? = some bx) (hge : E.H.length ≤ b) (hg : bx.gen = g) (hfit : off + n * sz ≤ bx.cells.length)
    (hlt : ∀ m, Lt m (.lst sz (chunk sz n (bx.cells.drop off)))) : Shed E (.sl b g off n sz full) (E.H ++ N) (.lst sz (chunk sz n (bx.cells.drop off))) E.H := fun w β v hI hs h => by
  obtain ⟨h1, h2⟩ := freeze_inv hI hb hfit
  have hbl : b < (E.H ++ N).length := (List.getElem?_eq_some_iff.1 hb).1
  have hv := rep_view (bx := { bx with ro := max bx.ro (off + n * sz) }) h1 (List.getElem?_set_self hbl) hg (Nat.le_max_right _ _) (h.stp h2)
  have hs' := hs.trans h2
  rw [List.set_append_right _ _ hge] at h1 hs' hv
  obtain ⟨g1, g2, g3⟩ := cut_inv h1 hs' (fun i bx hi j c hj => E.inv.ltCells hi hj) (Nat.le_refl _)
  exact ⟨β, g1, g2, g3 _ _ (hlt _) hv⟩

theorem ASpec.shed {P : Program} {f : FuncId} {args : List AV} {H : List Box} {r r' : AV} {H1 H2 : List Box} (h : ASpec P f args H (fun o H' => o = .ret r ∧ H' = H1)) (hs : ∀ E : Ent, E.H = H → Shed E r H1 r' H2) : ASpec P f args H (fun o H' => o = .ret r' ∧ H' = H2) := fun base =>
  fun w β vs hI hr => ((h base) w β vs hI hr).mono fun e w' ⟨out, H', β', hK, k2, k3, k4⟩ => by
    obtain ⟨rfl, rfl⟩ := hK
    cases e with
    | returned v =>
      obtain ⟨β'', g1, g2, g3⟩ := hs ⟨base, 0, w, H, β, hI⟩ rfl w' β' v k3 k4 k2
      exact ⟨.ret r', _, β'', ⟨rfl, rfl⟩, g3, g1, g2⟩
    | panicked c => exact k2.elim
    | outgrown => exact k2.elim

theorem Shed.ro {E : Ent} {H : List Box} {r : AV} {b m : Nat} {bx : Box} (hb : H[b]? = some bx) (hm : m ≤ bx.cells.length) : Shed E r H r (H.set b ⟨bx.cells, max bx.ro m, bx.gen, bx.grow⟩) := fun w β v hI hs h => by
  obtain ⟨h1, h2⟩ := freeze_inv hI hb hm
  exact ⟨β, h1, hs.trans h2, h.stp h2⟩

/-- Rows of cells; simp doesn't look behind the name. -/
def view (sz n : Nat) (cs : List AV) : List (List AV) := chunk sz n cs
section
variable {P : Program} {base : Nat} {f : FuncId} {post : List AV} {H : List Box} {K : Out → List Box → Prop}
theorem acall.fz0 {b g off n sz : Nat} {full : Bool} (h : match H[b]? with
      | some bx => (bx.gen = g ∧ off + n * sz ≤ bx.cells.length) ∧ acall P base f (.lst sz (view sz n (bx.cells.drop off)) :: post) (H.set b ⟨bx.cells, max bx.ro (off + n * sz), bx.gen, bx.grow⟩) K
      | none => False) : acall P base f (.sl b g off n sz full :: post) H K := by
  split at h
  · rename_i bx hb
    exact acall.freeze (pre := []) hb h.1.1 h.1.2 h.2
  · exact h.elim
theorem acall.fz1 {x : AV} {b g off n sz : Nat} {full : Bool} (h : match H[b]? with
      | some bx => (bx.gen = g ∧ off + n * sz ≤ bx.cells.length) ∧ acall P base f (x :: .lst sz (view sz n (bx.cells.drop off)) :: post) (H.set b ⟨bx.cells, max bx.ro (off + n * sz), bx.gen, bx.grow⟩) K
      | none => False) : acall P base f (x :: .sl b g off n sz full :: post) H K := by
  split at h
  · rename_i bx hb
    exact acall.freeze (pre := [x]) hb h.1.1 h.1.2 h.2
  · exact h.elim
theorem acall.em0 (h : acall P base f (.lst 1 (bytesG []) :: post) H K) : acall P base f (.emp :: post) H K := acall.empty (pre := []) 1 h
theorem acall.em1 {x : AV} (h : acall P base f (x :: .lst 1 (bytesG []) :: post) H K) : acall P base f (x :: .emp :: post) H K := acall.empty (pre := [x]) 1 h
variable {K1 : AV → Out → List Box → Prop} {K2 : AV → Prop}
theorem qcall.em0 (h : ∃ r, acall P base f (.lst 1 (bytesG []) :: post) H (K1 r) ∧ K2 r) : ∃ r, acall P base f (.emp :: post) H (K1 r) ∧ K2 r := let ⟨r, h1, h2⟩ := h; ⟨r, acall.em0 h1, h2⟩
theorem qcall.em1 {x : AV} (h : ∃ r, acall P base f (x :: .lst 1 (bytesG []) :: post) H (K1 r) ∧ K2 r) : ∃ r, acall P base f (x :: .emp :: post) H (K1 r) ∧ K2 r := let ⟨r, h1, h2⟩ := h; ⟨r, acall.em1 h1, h2⟩
end

@[go_sem] theorem strEq (a b : List UInt8) : ((⟨a.toArray⟩ : ByteArray) = ⟨b.toArray⟩) = (a = b) := by
  apply propext
  constructor
  · intro h
    have := congrArg (fun x : ByteArray => x.data.toList) h
    simpa using this
  · rintro rfl; rfl
theorem viewB (bs : List UInt8) (n : Nat) (h : n = bs.length) : view 1 n (bytesC bs) = bytesG bs := chunk_bytesC bs n h
theorem chunkB (bs : List UInt8) (n : Nat) (h : n = bs.length) : chunk 1 n (bytesC bs) = bytesG bs := chunk_bytesC bs n h

end Go.Proofs.YtkkhbmpcpilmfaaDoor.VL

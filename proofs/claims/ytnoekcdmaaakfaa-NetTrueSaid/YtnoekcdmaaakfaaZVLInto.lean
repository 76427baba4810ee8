/- The value logic: what a function makes anew, in the place of a box that stands there already. -/
import Derived.Test.YtnoekcdmaaakfaaZCd
set_option linter.unusedVariables false
set_option linter.unusedSimpArgs false
namespace Go.Proofs.Ytnoekcdmaaakfaa.VL
open Go Go.RowKit Go.Lib

/-- A box's memory becomes another one's. -/
theorem steal {base : Nat} {w : World} {H : List Box} {β : Pl} (hI : Inv base w H β) {k m : Nat} {bk bm : Box} (hk : H[k]? = some bk) (hm : H[m]? = some bm) (hne : k ≠ m) :
    Inv base w ((H.set k ⟨bm.cells, bm.ro, bk.gen + 1, bm.grow⟩).set m ⟨[], 0, bm.gen + 1, true⟩) (fun i => if i = k then β m else if i = m then none else β i) ∧
    Stp base w H β w ((H.set k ⟨bm.cells, bm.ro, bk.gen + 1, bm.grow⟩).set m ⟨[], 0, bm.gen + 1, true⟩) (fun i => if i = k then β m else if i = m then none else β i) := by
  have hkl := (List.getElem?_eq_some_iff.1 hk).1
  have hml := (List.getElem?_eq_some_iff.1 hm).1
  generalize hH' : (H.set k ⟨bm.cells, bm.ro, bk.gen + 1, bm.grow⟩).set m ⟨[], 0, bm.gen + 1, true⟩ = H'
  generalize hβ' : (fun i => if i = k then β m else if i = m then none else β i) = β'
  have bk' : β' k = β m := by rw [← hβ']; simp
  have bm' : β' m = none := by rw [← hβ']; simp [Ne.symm hne]
  have bo' : ∀ i, i ≠ k → i ≠ m → β' i = β i := fun i h1 h2 => by rw [← hβ']; simp [h1, h2]
  have gk : H'[k]? = some ⟨bm.cells, bm.ro, bk.gen + 1, bm.grow⟩ := by rw [← hH', List.getElem?_set_ne (Ne.symm hne), List.getElem?_set_self hkl]
  have gm : H'[m]? = some ⟨[], 0, bm.gen + 1, true⟩ := by rw [← hH', List.getElem?_set_self (by simpa using hml)]
  have go' : ∀ i, i ≠ k → i ≠ m → H'[i]? = H[i]? := fun i h1 h2 => by rw [← hH', List.getElem?_set_ne (Ne.symm h2), List.getElem?_set_ne (Ne.symm h1)]
  have hget : ∀ i bi, H'[i]? = some bi → (i = k ∧ bi = ⟨bm.cells, bm.ro, bk.gen + 1, bm.grow⟩) ∨ (i = m ∧ bi = ⟨[], 0, bm.gen + 1, true⟩) ∨ (i ≠ k ∧ i ≠ m ∧ H[i]? = some bi) := fun i bi h => by
    by_cases h1 : i = k
    · subst h1; rw [gk] at h; injection h with h; exact .inl ⟨rfl, h.symm⟩
    · by_cases h2 : i = m
      · subst h2; rw [gm] at h; injection h with h; exact .inr (.inl ⟨rfl, h.symm⟩)
      · rw [go' i h1 h2] at h; exact .inr (.inr ⟨h1, h2, h⟩)
  have hwr : ∀ a x, Wr H' β' a x → Wr H β a x := by
    rintro a x ⟨i, bi, s, h1, h2, h3, h4⟩
    rcases hget i bi h1 with ⟨rfl, rfl⟩ | ⟨rfl, rfl⟩ | ⟨n1, n2, h1⟩
    · rw [bk'] at h2; exact ⟨m, bm, s, hm, h2, h3, h4⟩
    · rw [bm'] at h2; cases h2
    · rw [bo' i n1 n2] at h2; exact ⟨i, bi, s, h1, h2, h3, h4⟩
  have hst : Stp base w H β w H' β' := by
    refine ⟨rfl, rfl, rfl, Nat.le_refl _, fun _ c _ fr h => ⟨c, fr, h, rfl, fun _ => rfl, fun h => h⟩, fun _ _ h _ => h, fun _ _ _ _ => rfl, fun a x _ h => hwr a x h, fun b bx h => ?_⟩
    by_cases h1 : b = k
    · subst h1; rw [hk] at h; injection h with h; subst h
      exact ⟨_, gk, by dsimp only; omega, fun e => by dsimp only at e; omega⟩
    · by_cases h2 : b = m
      · subst h2; rw [hm] at h; injection h with h; subst h
        exact ⟨_, gm, by dsimp only; omega, fun e => by dsimp only at e; omega⟩
      · exact ⟨bx, by rw [go' b h1 h2]; exact h, Nat.le_refl _, fun _ => bo' b h1 h2⟩
  refine ⟨⟨hI.bse, fun i bi hi => ?_, fun i bi hi hv => ?_, fun i bi a s hi hl => ?_, fun i bi a s hi hl j c hj => ?_, fun a x h => hI.free a x (hwr a x h), fun i i' bi bi' a s s' x hn hi hi' hl hl' q1 q2 q3 => ?_⟩, hst⟩
  · rcases hget i bi hi with ⟨rfl, rfl⟩ | ⟨rfl, rfl⟩ | ⟨n1, n2, h⟩
    · exact hI.ro m bm hm
    · exact Nat.zero_le _
    · exact hI.ro i bi h
  · rcases hget i bi hi with ⟨rfl, rfl⟩ | ⟨rfl, rfl⟩ | ⟨n1, n2, h⟩
    · rw [bk'] at hv; exact hI.virt m bm hm hv
    · rfl
    · rw [bo' i n1 n2] at hv; exact hI.virt i bi h hv
  · rcases hget i bi hi with ⟨rfl, rfl⟩ | ⟨rfl, rfl⟩ | ⟨n1, n2, h⟩
    · rw [bk'] at hl; exact hI.real m bm a s hm hl
    · rw [bm'] at hl; cases hl
    · rw [bo' i n1 n2] at hl; exact hI.real i bi a s h hl
  · rcases hget i bi hi with ⟨rfl, rfl⟩ | ⟨rfl, rfl⟩ | ⟨n1, n2, h⟩
    · rw [bk'] at hl
      obtain ⟨x, g1, g2, g3⟩ := hI.cells m bm a s hm hl j c hj
      exact ⟨x, g1, g2, g3.stp hst⟩
    · rw [bm'] at hl; cases hl
    · rw [bo' i n1 n2] at hl
      obtain ⟨x, g1, g2, g3⟩ := hI.cells i bi a s h hl j c hj
      exact ⟨x, g1, g2, g3.stp hst⟩
  · rcases hget i bi hi with ⟨rfl, rfl⟩ | ⟨rfl, rfl⟩ | ⟨n1, n2, h⟩
    · rw [bk'] at hl
      rcases hget i' bi' hi' with ⟨rfl, rfl⟩ | ⟨rfl, rfl⟩ | ⟨n1', n2', h'⟩
      · exact absurd rfl hn
      · rw [bm'] at hl'; cases hl'
      · rw [bo' i' n1' n2'] at hl'
        exact hI.apart m i' bm bi' a s s' x (Ne.symm n2') hm h' hl hl' q1 q2 q3
    · rw [bm'] at hl; cases hl
    · rw [bo' i n1 n2] at hl
      rcases hget i' bi' hi' with ⟨rfl, rfl⟩ | ⟨rfl, rfl⟩ | ⟨n1', n2', h'⟩
      · rw [bk'] at hl'
        exact hI.apart i m bi bm a s s' x n2 h hm hl hl' q1 q2 q3
      · rw [bm'] at hl'; cases hl'
      · rw [bo' i' n1' n2'] at hl'
        exact hI.apart i i' bi bi' a s s' x hn h h' hl hl' q1 q2 q3

/-- What a function makes anew stands in the place of a box that is there. -/
theorem ASpec.into {P : Program} {f : FuncId} {args : List AV} {H : List Box} {k n sz : Nat} {bk : Box} {cs : List AV} (hk : H[k]? = some bk) (hlt : ∀ c ∈ cs, Lt 0 c)
    (h : ASpec P f args H (fun o H' => o = .ret (.sl H.length 0 0 n sz false) ∧ H' = H ++ [⟨cs, 0, 0, true⟩])) :
    ASpec P f args H (fun o H' => o = .ret (.sl k (bk.gen + 1) 0 n sz false) ∧ H' = H.set k ⟨cs, 0, bk.gen + 1, true⟩) := fun base w β vs hI hr => by
  have hkl := (List.getElem?_eq_some_iff.1 hk).1
  refine (h base w β vs hI hr).mono fun e w' ⟨out, H', β', ⟨h1, h2⟩, h3, h4, h5⟩ => ?_
  subst h1; subst h2
  have hkk : (H ++ [(⟨cs, 0, 0, true⟩ : Box)])[k]? = some bk := by rw [List.getElem?_append_left hkl]; exact hk
  have hmm : (H ++ [(⟨cs, 0, 0, true⟩ : Box)])[H.length]? = some ⟨cs, 0, 0, true⟩ := by simp
  obtain ⟨i1, i2⟩ := steal h4 hkk hmm (by omega)
  dsimp only at i1 i2
  rw [List.set_append_left _ _ hkl, List.set_append_right _ _ (by simp), List.length_set, Nat.sub_self] at i1 i2
  simp only [List.set_cons_zero] at i1 i2
  have hs := h5.trans i2
  obtain ⟨c1, c2, c3⟩ := cut_inv (E := ⟨base, 0, w, H, β, hI⟩) i1 hs (fun i bx hi j c hj => by
    rw [List.length_set]
    by_cases hik : i = k
    · subst hik
      rw [List.getElem?_set_self hkl] at hi
      injection hi with hi
      subst hi
      exact (hlt c (List.mem_of_getElem? hj)).mono (Nat.zero_le _)
    · rw [List.getElem?_set_ne (Ne.symm hik)] at hi
      exact hI.ltCells hi hj) (by rw [List.length_set]; exact Nat.le_refl _)
  refine ⟨_, _, _, ⟨rfl, rfl⟩, ?_, c1, c2⟩
  cases e with
  | returned v =>
    have h3 : Rep w' (H ++ [(⟨cs, 0, 0, true⟩ : Box)]) β' (.sl H.length 0 0 n sz false) v := h3
    have hat : SlAt w' (β' H.length) 0 n sz false v := by
      cases h3 with
      | sl _ _ _ _ _ _ _ bx hb hg hx h =>
        rw [hmm] at hb
        injection hb with hb
        subst hb
        exact h rfl
    exact rep_sl (bx := ⟨cs, 0, bk.gen + 1, true⟩) (List.getElem?_set_self hkl) rfl (by simpa using hat)
  | panicked c => exact h3.elim
  | outgrown => exact h3.elim

end Go.Proofs.Ytnoekcdmaaakfaa.VL

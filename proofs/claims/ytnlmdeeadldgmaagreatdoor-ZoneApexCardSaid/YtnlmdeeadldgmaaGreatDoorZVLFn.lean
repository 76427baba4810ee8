/- The value logic, part 11: what may be forgotten of boxes; a function's body gives its contract. -/
import Derived.Test.YtnlmdeeadldgmaaGreatDoorZVLDraw
set_option linter.unusedVariables false
set_option linter.unusedSimpArgs false
namespace Go.Proofs.YtnlmdeeadldgmaaGreatDoor.VL
open Go Go.RowKit Go.Lib

/-! ### Which boxes a value names -/
inductive Lt (n : Nat) : AV → Prop
  | v (x : Value) : Lt n (.v x)
  | emp : Lt n .emp
  | mp (es : Array MapEntry) : Lt n (.mp es)
  | lit (m sz : Nat) (gs : List (List AV)) (h : Lt n (.lst sz gs)) : Lt n (.lit m sz gs)
  | dead : Lt n .dead
  | agg (cs : List AV) (h : ∀ (i : Nat) (c : AV), cs[i]? = some c → Lt n c) : Lt n (.agg cs)
  | tup (cs : List AV) (h : ∀ (i : Nat) (c : AV), cs[i]? = some c → Lt n c) : Lt n (.tup cs)
  | lst (sz : Nat) (gs : List (List AV)) (h : ∀ (i j : Nat) (g : List AV) (c : AV), gs[i]? = some g → g[j]? = some c → Lt n c) : Lt n (.lst sz gs)
  | sl (b g o m sz : Nat) (full : Bool) (h : b < n) : Lt n (.sl b g o m sz full)
  | ptr (b g o : Nat) (h : b < n) : Lt n (.ptr b g o)
  | bself (b g : Nat) (e : TypeId) (h : b < n) : Lt n (.bself b g e)
  | bs (b g m : Nat) (e : TypeId) (h : b < n) : Lt n (.bs b g m e)
  | bp (b g m : Nat) (e : TypeId) (h : 0 < m → b < n) : Lt n (.bp b g m e)
  | elt (g : List AV) (j : Nat) (h : ∀ (j : Nat) (c : AV), g[j]? = some c → Lt n c) : Lt n (.elt g j)
  | fn (f : FuncId) (cs : List AV) (h : ∀ (i : Nat) (c : AV), cs[i]? = some c → Lt n c) : Lt n (.fn f cs)

theorem Lt.mono {n m : Nat} (hnm : n ≤ m) {c : AV} (h : Lt n c) : Lt m c := by
  induction h with
  | v x => exact .v x
  | emp => exact .emp
  | mp es => exact .mp es
  | lit m sz gs _ ih => exact .lit m sz gs ih
  | dead => exact .dead
  | agg cs _ ih => exact .agg cs ih
  | tup cs _ ih => exact .tup cs ih
  | lst sz gs _ ih => exact .lst sz gs ih
  | sl b g o k sz full h => exact .sl b g o k sz full (by omega)
  | ptr b g o h => exact .ptr b g o (by omega)
  | bself b g e h => exact .bself b g e (by omega)
  | bs b g m e h => exact .bs b g m e (by omega)
  | bp b g m e h => exact .bp b g m e (fun h0 => by have := h h0; omega)
  | elt g j _ ih => exact .elt g j ih
  | fn f cs _ ih => exact .fn f cs ih

theorem Rep.lt {w : World} {H : List Box} {β : Pl} {c : AV} {x : Value} (h : Rep w H β c x) : Lt H.length c := by
  induction h with
  | v x => exact .v x
  | dead x => exact .dead
  | emp a => exact .emp
  | mp es k clock h => exact .mp es
  | lit n sz gs v _ hk ih => exact .lit n sz gs ih
  | agg cs vs hl _ ih => exact .agg cs fun i c hi => ih i c _ hi (Array.getElem?_eq_getElem (by have := (List.getElem?_eq_some_iff.1 hi).1; omega))
  | tup cs vs hl _ ih => exact .tup cs fun i c hi => ih i c _ hi (Array.getElem?_eq_getElem (by have := (List.getElem?_eq_some_iff.1 hi).1; omega))
  | lst0 sz a cap => exact .lst _ _ (by simp)
  | lst sz gs k s cap x hn hg hc _ ih => exact .lst sz gs ih
  | sl b g o n sz full x bx hb hg hx h => exact .sl _ _ _ _ _ _ (List.getElem?_eq_some_iff.1 hb).1
  | ptr b g o x bx hb hg hx h => exact .ptr _ _ _ (List.getElem?_eq_some_iff.1 hb).1
  | bself b g e x bx hb hg hx h => exact .bself _ _ _ (List.getElem?_eq_some_iff.1 hb).1
  | bs b g n e x bx hb hg hx h ht => exact .bs _ _ _ _ (List.getElem?_eq_some_iff.1 hb).1
  | bp b g n e x hx h => exact .bp _ _ _ _ fun h0 => by obtain ⟨bx, hb, _⟩ := h h0; exact (List.getElem?_eq_some_iff.1 hb).1
  | elt g j k s x hc _ ih => exact .elt g j ih
  | fn f cs vs hl _ ih => exact .fn f cs fun i c hi => ih i c _ hi (Array.getElem?_eq_getElem (by have := (List.getElem?_eq_some_iff.1 hi).1; omega))

/-- Other boxes, of which the value names none. -/
theorem Rep.move {w : World} {H H' : List Box} {β β' : Pl} {n : Nat} (hb : ∀ b, b < n → H'[b]? = H[b]? ∧ β' b = β b) (hw : ∀ k x, Wr H' β' k x → Wr H β k x) {c : AV} {x : Value} (h : Rep w H β c x) (hl : Lt n c) : Rep w H' β' c x := by
  induction h with
  | v x => exact .v x
  | dead x => exact .dead x
  | emp a => exact .emp a
  | mp es k clock h => exact .mp es k clock h
  | lit n sz gs v _ hk ih =>
    cases hl with
    | lit _ _ _ hl =>
      obtain ⟨k, s, m, cap, e, h1, h2, h3⟩ := hk
      exact .lit n sz gs v (ih hl) ⟨k, s, m, cap, e, h1, h2, fun y h => h3 y (hw _ _ h)⟩
  | agg cs vs hle _ ih =>
    cases hl with
    | agg _ hl => exact .agg cs vs hle fun i c x h1 h2 => ih i c x h1 h2 (hl i c h1)
  | tup cs vs hle _ ih =>
    cases hl with
    | tup _ hl => exact .tup cs vs hle fun i c x h1 h2 => ih i c x h1 h2 (hl i c h1)
  | lst0 sz a cap => exact .lst0 sz a cap
  | lst sz gs k s cap x hn hg hc _ ih =>
    cases hl with
    | lst _ _ hl =>
      exact .lst sz gs k s cap x hn hg (fun i j g c hi hj => by
        obtain ⟨h1, h2, h3⟩ := hc i j g c hi hj
        exact ⟨h1, h2, fun h => h3 (hw _ _ h)⟩) fun i j g c hi hj => ih i j g c hi hj (hl i j g c hi hj)
  | sl b g o m sz full x bx hb' hg hx h =>
    cases hl with
    | sl _ _ _ _ _ _ hl =>
      obtain ⟨e1, e2⟩ := hb b hl
      exact .sl b g o m sz full x bx (by rw [e1]; exact hb') hg hx (by rw [e2]; exact h)
  | ptr b g o x bx hb' hg hx h =>
    cases hl with
    | ptr _ _ _ hl =>
      obtain ⟨e1, e2⟩ := hb b hl
      exact .ptr b g o x bx (by rw [e1]; exact hb') hg hx (by rw [e2]; exact h)
  | bself b g e x bx hb' hg hx h =>
    cases hl with
    | bself _ _ _ hl =>
      obtain ⟨e1, e2⟩ := hb b hl
      exact .bself b g e x bx (by rw [e1]; exact hb') hg hx (by rw [e2]; exact h)
  | bs b g n e x bx hb' hg hx h ht =>
    cases hl with
    | bs _ _ _ _ hl =>
      obtain ⟨e1, e2⟩ := hb b hl
      exact .bs b g n e x bx (by rw [e1]; exact hb') hg hx (by rw [e2]; exact h) fun a m cap ha h0 => by
        obtain ⟨k, c, fr, q1, q2, q3⟩ := ht a m cap ha h0
        exact ⟨k, c, fr, q1, q2, fun hy => q3 (hy.imp fun y hy => hw k y hy)⟩
  | bp b g n e x hx h =>
    cases hl with
    | bp _ _ _ _ hl =>
      refine .bp b g n e x hx fun h0 => ?_
      obtain ⟨e1, e2⟩ := hb b (hl h0)
      obtain ⟨bx, h1, h2, h3⟩ := h h0
      refine ⟨bx, by rw [e1]; exact h1, h2, fun he => ?_⟩
      rw [e2]
      obtain ⟨k, c, fr, q1, q2, q3, q4, q5⟩ := h3 he
      exact ⟨k, c, fr, q1, q2, q3, fun hy => q4 (hy.imp fun y hy => hw k y hy), q5⟩
  | elt g j k s x hc _ ih =>
    cases hl with
    | elt _ _ hl =>
      exact .elt g j k s x (fun j c hj => by
        obtain ⟨h1, h2, h3⟩ := hc j c hj
        exact ⟨h1, h2, fun h => h3 (hw _ _ h)⟩) fun j c hj => ih j c hj (hl j c hj)
  | fn f cs vs hle _ ih =>
    cases hl with
    | fn _ _ hl => exact .fn f cs vs hle fun i c x h1 h2 => ih i c x h1 h2 (hl i c h1)

theorem Inv.ltCells {base : Nat} {w : World} {H : List Box} {β : Pl} (hI : Inv base w H β) {i : Nat} {bx : Box} (hi : H[i]? = some bx) {j : Nat} {c : AV} (hj : bx.cells[j]? = some c) : Lt H.length c := by
  cases hb : β i with
  | none =>
    rw [hI.virt i bx hi hb] at hj
    simp at hj
  | some ks =>
    obtain ⟨k, s⟩ := ks
    obtain ⟨x, _, _, h⟩ := hI.cells i bx k s hi hb j c hj
    exact h.lt

/-! ### What is forgotten at a function's end -/
def Shed (E : Ent) (r : AV) (H : List Box) (r' : AV) (H' : List Box) : Prop :=
  ∀ (w : World) (β : Pl) (v : Value), Inv E.base w H β → Stp E.base E.w E.H E.β w H β → Rep w H β r v → ∃ β', Inv E.base w H' β' ∧ Stp E.base E.w E.H E.β w H' β' ∧ Rep w H' β' r' v
theorem Shed.refl (E : Ent) (r : AV) (H : List Box) : Shed E r H r H := fun w β v h1 h2 h3 => ⟨β, h1, h2, h3⟩
theorem Shed.trans {E : Ent} {r r' r'' : AV} {H H' H'' : List Box} (h : Shed E r H r' H') (h' : Shed E r' H' r'' H'') : Shed E r H r'' H'' := fun w β v h1 h2 h3 => by
  obtain ⟨β', g1, g2, g3⟩ := h w β v h1 h2 h3
  exact h' w β' v g1 g2 g3

/-- Boxes beyond the first m are forgotten; m is at least what there was at the begin. -/
theorem cut_inv {E : Ent} {w : World} {H N : List Box} {β : Pl} (hI : Inv E.base w (H ++ N) β) (hs : Stp E.base E.w E.H E.β w (H ++ N) β) (hlt : ∀ (i : Nat) (bx : Box), H[i]? = some bx → ∀ (j : Nat) (c : AV), bx.cells[j]? = some c → Lt H.length c) (hE : E.H.length ≤ H.length) :
    Inv E.base w H β ∧ Stp E.base E.w E.H E.β w H β ∧ ∀ (c : AV) (x : Value), Lt H.length c → Rep w (H ++ N) β c x → Rep w H β c x := by
  have hget : ∀ i bx, H[i]? = some bx → (H ++ N)[i]? = some bx := fun i bx h => by rw [List.getElem?_append_left (List.getElem?_eq_some_iff.1 h).1]; exact h
  have hwr : ∀ k x, Wr H β k x → Wr (H ++ N) β k x := fun k x ⟨i, bx, s, h1, h2⟩ => ⟨i, bx, s, hget i bx h1, h2⟩
  have hmv : ∀ (c : AV) (x : Value), Lt H.length c → Rep w (H ++ N) β c x → Rep w H β c x := fun c x hl h => h.move (n := H.length) (fun b hb => ⟨by rw [List.getElem?_append_left hb], rfl⟩) hwr hl
  refine ⟨⟨hI.bse, fun i bx h => hI.ro i bx (hget i bx h), fun i bx h => hI.virt i bx (hget i bx h), fun i bx k s h => hI.real i bx k s (hget i bx h), fun i bx k s h hl j c hj => ?_, fun k x h hc => hI.free k x (hwr k x h) hc, fun i i' bx bx' k s s' x hne h h' => hI.apart i i' bx bx' k s s' x hne (hget i bx h) (hget i' bx' h')⟩, ?_, hmv⟩
  · obtain ⟨x, g1, g2, g3⟩ := hI.cells i bx k s (hget i bx h) hl j c hj
    exact ⟨x, g1, g2, hmv c x (hlt i bx h j c hj) g3⟩
  · refine ⟨hs.os, hs.tape, hs.output, hs.size, (fun k c e fr hk => by obtain ⟨c', fr', a1, a2, a3, a4⟩ := hs.shape k c e fr hk; exact ⟨c', fr', a1, a2, a3, fun ho hw => a4 ho (hw.imp fun x hx => hwr k x hx)⟩), hs.other, hs.keep, fun k x hk h => hs.wr k x hk (hwr k x h), fun b bx hb => ?_⟩
    obtain ⟨bx', h1, h2⟩ := hs.ids b bx hb
    have hbl := (List.getElem?_eq_some_iff.1 hb).1
    rw [List.getElem?_append_left (by omega)] at h1
    exact ⟨bx', h1, h2⟩

/-- All new boxes are forgotten. -/
theorem Shed.cut {E : Ent} {r : AV} {N : List Box} (hr : Lt 0 r) : Shed E r (E.H ++ N) r E.H := fun w β v hI hs h => by
  obtain ⟨h1, h2, h3⟩ := cut_inv hI hs (fun i bx hi j c hj => E.inv.ltCells hi hj) (Nat.le_refl _)
  exact ⟨β, h1, h2, h3 r v (hr.mono (Nat.zero_le _)) h⟩

/-- One new box stays, the one of the slice that is handed back. -/
theorem Shed.own {E : Ent} {N : List Box} {b g n sz : Nat} {full : Bool} {bx : Box} (hb : (E.H ++ N)[b]? = some bx) (hg : bx.gen = g) (hge : E.H.length ≤ b) (hc : ∀ (j : Nat) (c : AV), bx.cells[j]? = some c → Lt 0 c) :
    Shed E (.sl b g 0 n sz full) (E.H ++ N) (.sl E.H.length 0 0 n sz full) (E.H ++ [⟨bx.cells, bx.ro, 0, bx.grow⟩]) := fun w β v hI hs h => by
  obtain ⟨bx0, e1, e2, hsl⟩ := live_sl (by simp [live, hb, hg]) h
  rw [hb] at e1
  obtain rfl := Option.some.inj e1
  let H' := E.H ++ [(⟨bx.cells, bx.ro, 0, bx.grow⟩ : Box)]
  let β' : Pl := fun i => if i = E.H.length then β b else β i
  have hget : ∀ i bi, H'[i]? = some bi → (i = E.H.length ∧ bi = ⟨bx.cells, bx.ro, 0, bx.grow⟩) ∨ (i < E.H.length ∧ E.H[i]? = some bi) := by
    intro i bi h
    rcases Nat.lt_trichotomy i E.H.length with hi | hi | hi
    · simp only [H', List.getElem?_append_left hi] at h
      exact .inr ⟨hi, h⟩
    · subst hi
      simp [H'] at h
      exact .inl ⟨rfl, h.symm⟩
    · have hi0 : i - E.H.length ≠ 0 := by omega
      simp only [H'] at h
      rw [List.getElem?_append_right (by omega)] at h
      simp [hi0] at h
  have hb1 : β' E.H.length = β b := if_pos rfl
  have hb2 : ∀ i, i < E.H.length → β' i = β i := fun i hi => if_neg (by omega)
  have hold : ∀ i bi, E.H[i]? = some bi → (E.H ++ N)[i]? = some bi := fun i bi h => by rw [List.getElem?_append_left (List.getElem?_eq_some_iff.1 h).1]; exact h
  have hwr : ∀ k x, Wr H' β' k x → Wr (E.H ++ N) β k x := by
    rintro k x ⟨i, bi, s, h1, h2, h3, h4⟩
    rcases hget i bi h1 with ⟨rfl, rfl⟩ | ⟨hi, h1⟩
    · rw [hb1] at h2
      exact ⟨b, bx, s, hb, h2, h3, h4⟩
    · rw [hb2 i hi] at h2
      exact ⟨i, bi, s, hold i bi h1, h2, h3, h4⟩
  have hmv : ∀ (c : AV) (x : Value), Lt E.H.length c → Rep w (E.H ++ N) β c x → Rep w H' β' c x := fun c x hl h =>
    h.move (n := E.H.length) (fun i hi => ⟨by simp only [H']; rw [List.getElem?_append_left hi, List.getElem?_append_left hi], hb2 i hi⟩) hwr hl
  have hbne : ∀ i, i < E.H.length → b ≠ i := fun i hi => by omega
  refine ⟨β', ⟨hI.bse, fun i bi hi => ?_, fun i bi hi hv => ?_, fun i bi k s hi hl => ?_, fun i bi k s hi hl j c hj => ?_, fun k x h hc => hI.free k x (hwr k x h) hc, fun i i' bi bi' k s s' x hne hi hi' hl hl' h1 h2 h3 => ?_⟩, ⟨hs.os, hs.tape, hs.output, hs.size, (fun k c e fr hk => by obtain ⟨c', fr', a1, a2, a3, a4⟩ := hs.shape k c e fr hk; exact ⟨c', fr', a1, a2, a3, fun ho hw => a4 ho (hw.imp fun x hx => hwr k x hx)⟩), hs.other, hs.keep, fun k x hk h => hs.wr k x hk (hwr k x h), fun i bi hi => ?_⟩, ?_⟩
  · rcases hget i bi hi with ⟨rfl, rfl⟩ | ⟨hi', h⟩
    · exact hI.ro b bx hb
    · exact hI.ro i bi (hold i bi h)
  · rcases hget i bi hi with ⟨rfl, rfl⟩ | ⟨hi', h⟩
    · rw [hb1] at hv; exact hI.virt b bx hb hv
    · rw [hb2 i hi'] at hv; exact hI.virt i bi (hold i bi h) hv
  · rcases hget i bi hi with ⟨rfl, rfl⟩ | ⟨hi', h⟩
    · rw [hb1] at hl; exact hI.real b bx k s hb hl
    · rw [hb2 i hi'] at hl; exact hI.real i bi k s (hold i bi h) hl
  · rcases hget i bi hi with ⟨rfl, rfl⟩ | ⟨hi', h⟩
    · rw [hb1] at hl
      obtain ⟨x, g1, g2, g3⟩ := hI.cells b bx k s hb hl j c hj
      exact ⟨x, g1, g2, hmv c x ((hc j c hj).mono (Nat.zero_le _)) g3⟩
    · rw [hb2 i hi'] at hl
      obtain ⟨x, g1, g2, g3⟩ := hI.cells i bi k s (hold i bi h) hl j c hj
      exact ⟨x, g1, g2, hmv c x (E.inv.ltCells h hj) g3⟩
  · rcases hget i bi hi with ⟨rfl, rfl⟩ | ⟨hx, h⟩
    · rcases hget i' bi' hi' with ⟨rfl, rfl⟩ | ⟨hx', h'⟩
      · exact absurd rfl hne
      · rw [hb1] at hl
        rw [hb2 i' hx'] at hl'
        exact hI.apart b i' bx bi' k s s' x (hbne i' hx') hb (hold i' bi' h') hl hl' h1 h2 h3
    · rw [hb2 i hx] at hl
      rcases hget i' bi' hi' with ⟨rfl, rfl⟩ | ⟨hx', h'⟩
      · rw [hb1] at hl'
        exact hI.apart i b bi bx k s s' x (Ne.symm (hbne i hx)) (hold i bi h) hb hl hl' h1 h2 h3
      · rw [hb2 i' hx'] at hl'
        exact hI.apart i i' bi bi' k s s' x hne (hold i bi h) (hold i' bi' h') hl hl' h1 h2 h3
  · obtain ⟨bx', h1, h2, h3⟩ := hs.ids i bi hi
    have hil := (List.getElem?_eq_some_iff.1 hi).1
    rw [List.getElem?_append_left hil] at h1
    exact ⟨bx', by simp only [List.getElem?_append_left hil]; exact h1, h2, fun e => by rw [hb2 i hil]; exact h3 e⟩
  · refine rep_sl (bx := ⟨bx.cells, bx.ro, 0, bx.grow⟩) (by simp) rfl ?_
    rw [hb1]
    exact hsl

/-- An empty slice as one of a new box. -/
theorem Shed.emp {E : Ent} {sz : Nat} : Shed E .emp E.H (.sl E.H.length 0 0 0 sz false) (E.H ++ [⟨[], 0, 0, true⟩]) := fun w β v hI hs h => by
  obtain ⟨h1, h2⟩ := newv hI 0 0 rfl
  cases h with
  | emp a => exact ⟨_, h1, hs.trans h2, rep_sl (bx := ⟨[], 0, 0, true⟩) (by simp) rfl ⟨a, 0, rfl, Nat.le_refl _, by simp, fun hh => absurd hh (by omega)⟩⟩

/-- A slice of one's own is handed on to be read. -/
theorem acall.freeze {P : Program} {base : Nat} {f : FuncId} {pre post : List AV} {H : List Box} {K : Out → List Box → Prop} {b g off n sz : Nat} {full : Bool} {bx : Box} (hb : H[b]? = some bx) (hg : bx.gen = g) (hfit : off + n * sz ≤ bx.cells.length)
    (h : acall P base f (pre ++ .lst sz (chunk sz n (bx.cells.drop off)) :: post) (H.set b { bx with ro := max bx.ro (off + n * sz) }) K) : acall P base f (pre ++ .sl b g off n sz full :: post) H K := by
  refine fun w β vs hI hr => ?_
  obtain ⟨h1, h2⟩ := freeze_inv hI hb hfit
  have hbl : b < H.length := (List.getElem?_eq_some_iff.1 hb).1
  refine (h w β vs h1 ⟨by simpa using hr.1, fun i c x hi hx => ?_⟩).mono fun e w' ⟨out, H', β', k1, k2, k3, k4⟩ => ⟨out, H', β', k1, k2, k3, h2.trans k4⟩
  by_cases hip : i = pre.length
  · subst hip
    simp at hi
    subst hi
    have := (hr.2 pre.length (.sl b g off n sz full) x (by simp) hx).stp h2
    have hv := rep_view (bx := { bx with ro := max bx.ro (off + n * sz) }) h1 (List.getElem?_set_self hbl) hg (Nat.le_max_right _ _) this
    exact hv
  · refine (hr.2 i c x ?_ hx).stp h2
    rw [← hi]
    rcases Nat.lt_or_ge i pre.length with hlt | hge
    · rw [List.getElem?_append_left hlt, List.getElem?_append_left hlt]
    · rw [List.getElem?_append_right hge, List.getElem?_append_right hge]
      obtain ⟨d, hd⟩ : ∃ d, i - pre.length = d + 1 := ⟨i - pre.length - 1, by omega⟩
      rw [hd, List.getElem?_cons_succ, List.getElem?_cons_succ]
/-- An empty slice is handed on to be read. -/
theorem acall.empty {P : Program} {base : Nat} {f : FuncId} {pre post : List AV} {H : List Box} {K : Out → List Box → Prop} (sz : Nat) (h : acall P base f (pre ++ .lst sz [] :: post) H K) : acall P base f (pre ++ .emp :: post) H K := by
  refine fun w β vs hI hr => h w β vs hI ⟨by simpa using hr.1, fun i c x hi hx => ?_⟩
  by_cases hip : i = pre.length
  · subst hip
    simp at hi
    subst hi
    have := hr.2 pre.length .emp x (by simp) hx
    cases this with
    | emp a => exact .lst0 _ _ _
  · refine hr.2 i c x ?_ hx
    rw [← hi]
    rcases Nat.lt_or_ge i pre.length with hlt | hge
    · rw [List.getElem?_append_left hlt, List.getElem?_append_left hlt]
    · rw [List.getElem?_append_right hge, List.getElem?_append_right hge]
      obtain ⟨d, hd⟩ : ∃ d, i - pre.length = d + 1 := ⟨i - pre.length - 1, by omega⟩
      rw [hd, List.getElem?_cons_succ, List.getElem?_cons_succ]

/-! ### A function's body -/
def ares1 (P : Program) (l : List (Nat × AV)) (H : List Box) : ResultVar → Option AV
  | .tmp t => some (lk l t)
  | .cell a t => aloadAt P t H (lk l a)
def aresL (P : Program) (l : List (Nat × AV)) (H : List Box) : List ResultVar → Option (List AV)
  | [] => some []
  | r :: rs => match ares1 P l H r, aresL P l H rs with
    | some x, some xs => some (x :: xs)
    | _, _ => none
def ares (P : Program) (l : List (Nat × AV)) (H : List Box) (rs : List ResultVar) : Option AV :=
  match aresL P l H rs with
  | some [x] => some x
  | some xs => some (.tup xs)
  | none => none

theorem ares1_run {P : Program} {E : Ent} {σ : ASt} {β : Pl} {a : Act} {w : World} (hs : SimB E σ β a w) {rv : ResultVar} {r : AV} (h : ares1 P σ.tmps σ.H rv = some r) :
    ∃ v, (match rv with | .tmp t => pure (a.tmps.getD t undef) | .cell x t => do loadVar t (← asAddr (a.tmps.getD x undef)) : Sem Value).run P w = .ok v w ∧ Rep w σ.H β r v := by
  cases rv with
  | tmp t =>
    simp only [ares1, Option.some.injEq] at h
    subst h
    exact ⟨_, rfl, hs.tmps t⟩
  | cell x t =>
    simp only [ares1] at h
    have hx := hs.tmps x
    unfold aloadAt at h
    split at h
    · rename_i b g off hAx
      rw [hAx] at hx
      split at h
      · rename_i bx hb
        split at h
        · rename_i hg
          obtain ⟨bx', k, s, h1, h2, h3, h4⟩ := live_ptr (by simp [live, hb, hg]) hx
          rw [hb] at h1
          obtain rfl := Option.some.inj h1
          obtain ⟨v, h5, h6⟩ := run_load_cells h (fun j c hj => by obtain ⟨x, e1, _, e2⟩ := hs.inv.cells b bx k s hb h3 j c hj; exact ⟨x, e1, e2⟩)
          exact ⟨v, by simp only [Sem.run_bind, h4, asAddr, Sem.run_pure, Result.andThen_ok, h5], h6⟩
        · cases h
      · cases h
    · rename_i g j hAx
      rw [hAx] at hx
      generalize hv : a.tmps.getD x undef = v at hx
      cases hx with
      | elt _ _ k s y hc hr =>
        obtain ⟨v, h2, h3⟩ := run_load_cells h (fun j c hj => ⟨y j, (hc j c hj).1, hr j c hj⟩)
        exact ⟨v, by simp only [Sem.run_bind, hv, asAddr, Sem.run_pure, Result.andThen_ok, h2], h3⟩
    · cases h

theorem aresL_run {P : Program} {E : Ent} {σ : ASt} {β : Pl} {a : Act} {w : World} (hs : SimB E σ β a w) : ∀ (rs : List ResultVar) (xs : List AV), aresL P σ.tmps σ.H rs = some xs →
    ∃ vs : List Value, (rs.mapM (fun | .tmp t => pure (a.tmps.getD t undef) | .cell x t => do loadVar t (← asAddr (a.tmps.getD x undef)) : ResultVar → Sem Value)).run P w = .ok vs w ∧ vs.length = xs.length ∧ ∀ (i : Nat) (c : AV) (x : Value), xs[i]? = some c → vs[i]? = some x → Rep w σ.H β c x := by
  intro rs
  induction rs with
  | nil =>
    intro xs h
    simp only [aresL, Option.some.injEq] at h
    subst h
    exact ⟨[], rfl, rfl, by simp⟩
  | cons r rs ih =>
    intro xs h
    simp only [aresL] at h
    split at h
    · rename_i x xs' h1 h2
      injection h with h
      subst h
      obtain ⟨v, g1, g2⟩ := ares1_run hs h1
      obtain ⟨vs, g3, g4, g5⟩ := ih xs' h2
      refine ⟨v :: vs, ?_, by simp [g4], fun i c y hi hy => ?_⟩
      · rw [List.mapM_cons, Sem.run_bind]
        refine (congrArg (fun z => Result.andThen z _) g1).trans ?_
        rw [Result.andThen_ok, Sem.run_bind, g3, Result.andThen_ok]
        rfl
      · cases i with
        | zero => simp at hi hy; subst hi; subst hy; exact g2
        | succ i => exact g5 i c y (by simpa using hi) (by simpa using hy)
    · cases h

theorem ares_run {P : Program} {E : Ent} {σ : ASt} {β : Pl} {a : Act} {w : World} {fn : Func} (hs : SimB E σ β a w) {r : AV} (h : ares P σ.tmps σ.H fn.results.toList = some r) : ∃ v, (results fn a.tmps).run P w = .ok v w ∧ Rep w σ.H β r v := by
  unfold ares at h
  have hm : ∀ (xs : List AV), aresL P σ.tmps σ.H fn.results.toList = some xs → ∃ vs : List Value, (fn.results.mapM (fun | .tmp t => pure (a.tmps.getD t undef) | .cell x t => do loadVar t (← asAddr (a.tmps.getD x undef)) : ResultVar → Sem Value)).run P w = .ok vs.toArray w ∧ vs.length = xs.length ∧ ∀ (i : Nat) (c : AV) (x : Value), xs[i]? = some c → vs[i]? = some x → Rep w σ.H β c x := fun xs hx => by
    obtain ⟨vs, h1, h2, h3⟩ := aresL_run hs _ xs hx
    refine ⟨vs, ?_, h2, h3⟩
    rw [Array.mapM_eq_mapM_toList, Sem.run_map, h1, Result.andThen_ok]
  split at h
  · rename_i x hx
    injection h with h
    subst h
    obtain ⟨vs, h1, h2, h3⟩ := hm _ hx
    cases vs with
    | nil => simp at h2
    | cons v rest =>
      obtain rfl : rest = [] := List.eq_nil_of_length_eq_zero (by simpa using h2)
      refine ⟨v, ?_, h3 0 x v rfl rfl⟩
      unfold results
      rw [Sem.run_bind]
      refine (congrArg (fun z => Result.andThen z _) h1).trans ?_
      rfl
  · rename_i xs hx hne
    injection h with h
    subst h
    obtain ⟨vs, h1, h2, h3⟩ := hm _ hne
    refine ⟨.tuple vs.toArray, ?_, .tup _ _ (by simp [h2]) (fun i c x hi hv => h3 i c x hi (by simpa using hv))⟩
    unfold results
    rw [Sem.run_bind]
    refine (congrArg (fun z => Result.andThen z _) h1).trans ?_
    rw [Result.andThen_ok]
    have : ¬ vs.toArray.size = 1 := fun h => by
      simp at h
      rw [h2] at h
      cases xs with
      | nil => simp at h
      | cons y ys => cases ys with
        | nil => exact hx y rfl
        | cons z zs => simp at h
    rw [dif_neg this]
    rfl
  · cases h

def Fin (E : Ent) (r : AV) (H : List Box) (K : AV → List Box → Prop) : Prop := ∃ r' H', Shed E r H r' H' ∧ K r' H'

def bodyQ (P : Program) (E : Ent) (rs : List ResultVar) (K : Out → List Box → Prop) : AExit → ASt → Prop
  | .normal, σ => ∃ r, ares P σ.tmps σ.H rs = some r ∧ Fin E r σ.H fun r H => K (.ret r) H
  | .ret, σ => ∃ r, ares P σ.tmps σ.H rs = some r ∧ Fin E r σ.H fun r H => K (.ret r) H
  | .panic r, σ => Fin E r σ.H fun r H => K (.pan r) H
  | _, _ => False

def number : Nat → List AV → List (Nat × AV)
  | _, [] => []
  | k, c :: r => (k, c) :: number (k + 1) r
theorem lk_number : ∀ (args : List AV) (k n : Nat), lk (number k args) n = if k ≤ n then (args[n - k]?).getD .dead else .dead := by
  intro args
  induction args with
  | nil => intro k n; simp [number, lk]
  | cons c r ih =>
    intro k n
    simp only [number, lk_cons, ih]
    by_cases h : k = n
    · subst h; simp
    · rw [if_neg h]
      by_cases h1 : k + 1 ≤ n
      · rw [if_pos h1, if_pos (by omega)]
        have : n - k = (n - (k + 1)) + 1 := by omega
        rw [this, List.getElem?_cons_succ]
      · rw [if_neg h1, if_neg (by omega)]

theorem acall_body {P : Program} {base : Nat} {f : FuncId} {fn : Func} {c : Code} {args : List AV} {H : List Box} {K : Out → List Box → Prop} {n : Nat} {rs : List ResultVar} (hf : P.funcs[f]? = some fn) (hb : fn.body = some c) (hen : enters P f) (hnt : fn.ntmps = n) (hrs : fn.results = rs.toArray) (hn : args.length ≤ n)
    (h : ∀ (w : World) (β : Pl) (hI : Inv base w H β), AWP P ⟨base, n, w, H, β, hI, []⟩ c (bodyQ P ⟨base, n, w, H, β, hI, []⟩ rs K) ⟨number 0 args, H⟩) : acall P base f args H K := by
  refine fun w β vs hI hr => .inl ⟨hen vs w, calls_of_wp hf hb ?_⟩
  subst hnt
  have hsim : SimB ⟨base, fn.ntmps, w, H, β, hI, []⟩ ⟨number 0 args, H⟩ β { tmps := vs ++ Array.replicate (fn.ntmps - vs.size) undef, defers := [] } w := by
    refine ⟨rfl, by simp; have := hr.1; omega, hI, Stp.refl _ _ _, fun k => ?_⟩
    simp only [lk_number, Nat.zero_le, if_true, Nat.sub_zero]
    cases hk : args[k]? with
    | none => exact .dead _
    | some cc =>
      have hkl := (List.getElem?_eq_some_iff.1 hk).1
      have hkv : k < vs.size := by have := hr.1; omega
      have : (vs ++ Array.replicate (fn.ntmps - vs.size) undef).getD k undef = vs[k] := by
        rw [Array.getD_eq_getD_getElem?, Array.getElem?_append_left hkv, Array.getElem?_eq_getElem hkv]
        rfl
      rw [this]
      exact hr.2 k cc _ hk (Array.getElem?_eq_getElem hkv)
  refine wp_mono (h w β hI _ w ⟨β, hsim⟩) fun e a' w' hl => ?_
  have hrl : fn.results.toList = rs := by rw [hrs]
  cases e with
  | normal =>
    obtain ⟨σ, ⟨r, h1, r', H', h2, h3⟩, β', hs⟩ := hl
    obtain ⟨v, h4, h5⟩ := ares_run (fn := fn) hs (by rw [hrl]; exact h1)
    obtain ⟨β'', g1, g2, g3⟩ := h2 w' β' v hs.inv hs.stp h5
    exact ⟨hs.defers, v, h4, .ret r', H', β'', h3, g3, g1, g2⟩
  | ret =>
    obtain ⟨σ, ⟨r, h1, r', H', h2, h3⟩, β', hs⟩ := hl
    obtain ⟨v, h4, h5⟩ := ares_run (fn := fn) hs (by rw [hrl]; exact h1)
    obtain ⟨β'', g1, g2, g3⟩ := h2 w' β' v hs.inv hs.stp h5
    exact ⟨hs.defers, v, h4, .ret r', H', β'', h3, g3, g1, g2⟩
  | panic chain =>
    obtain ⟨σ, r, v, β', ⟨r', H', h2, h3⟩, rfl, hs, h5⟩ := hl
    obtain ⟨β'', g1, g2, g3⟩ := h2 w' β' v hs.inv hs.stp h5
    exact ⟨hs.defers, .pan r', H', β'', h3, ⟨v, rfl, g3⟩, g1, g2⟩
  | exit id => obtain ⟨σ, h, _⟩ := hl; exact h.elim
  | goto l => obtain ⟨σ, h, _⟩ := hl; exact h.elim
  | outgrown => exact hl.elim

end Go.Proofs.YtnlmdeeadldgmaaGreatDoor.VL

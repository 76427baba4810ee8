/- The value logic, part 12b: what a walk of regions with kept places rewrites by; slices of strings. -/
import Derived.Test.YtnlmdeeadldgmaaGreatDoorZG14
import Derived.Test.YtnlmdeeadldgmaaGreatDoorZVLHole
import Derived.Scope
set_option linter.unusedVariables false
set_option linter.unusedSimpArgs false
namespace Go.Proofs.YtnlmdeeadldgmaaGreatDoor.VL
open Go Go.RowKit Go.Lib

theorem hcall.det {P : Program} {base : Nat} {f : FuncId} {args : List AV} {X : (Nat → Box) → List Box} {K : AV → Prop} {r : AV} (h : ∀ f', ASpec P f args (X f') (fun o H' => o = .ret r ∧ H' = X f')) (hK : K r) :
    ∃ r, (∀ f', acall P base f args (X f') (fun o H' => o = .ret r ∧ H' = X f')) ∧ K r := ⟨r, fun f' => h f' base, hK⟩

/-- Rows of strings. -/
abbrev strG (l : List (List UInt8)) : List (List AV) := l.map fun s => [AV.v (.string ⟨s.toArray⟩)]
@[go_sem] theorem strG_length (l : List (List UInt8)) : (strG l).length = l.length := by simp [strG]
@[go_sem] theorem strG_get (l : List (List UInt8)) (i : Nat) : (strG l)[i]? = (l[i]?).map fun s => [AV.v (.string ⟨s.toArray⟩)] := by simp [strG]
theorem lt_str {n : Nat} (l : List (List UInt8)) : Lt n (.lst 1 (strG l)) := .lst _ _ fun i j g c hi hj => by
  simp only [strG, List.getElem?_map] at hi
  obtain ⟨b, _, rfl⟩ := Option.map_eq_some_iff.1 hi
  cases j with
  | zero => simp at hj; subst hj; exact .v _
  | succ j => simp at hj

end Go.Proofs.YtnlmdeeadldgmaaGreatDoor.VL

/- The value logic, part 14: rows of strings that grow; what is handed back and never looked at. -/
set_option linter.unusedVariables false
set_option linter.unusedSimpArgs false
namespace Go.Proofs.YtnlmdeeadldgmaaGreatDoor.VL
open Go Go.RowKit Go.Lib

/-- An empty slice becomes one of a box of its own. -/
theorem Coe.emp {E : Ent} {l l' : List (Nat × AV)} {N : List Box} {t sz : Nat} (hl : lk l t = .emp) (h : Keeps ((t, .sl (E.H.length + N.length) 0 0 0 sz false) :: l) l') : Coe E ⟨l, E.H ++ N⟩ ⟨l', E.H ++ (N ++ [⟨[], 0, 0, true⟩])⟩ :=
  Coe.trans (σ' := ⟨(t, .sl (E.H.length + N.length) 0 0 0 sz false) :: l, E.H ++ (N ++ [⟨[], 0, 0, true⟩])⟩) (fun a w ⟨β, hs⟩ => by
    obtain ⟨h1, h2⟩ := newv hs.inv 0 0 rfl
    dsimp only at h1 h2
    rw [List.append_assoc] at h1 h2
    refine ⟨_, ⟨hs.defers, hs.size, h1, hs.stp.trans h2, fun k => ?_⟩⟩
    dsimp only
    rw [lk_cons]
    split
    · rename_i hk
      subst hk
      have := hs.tmps t
      dsimp only at this
      rw [hl] at this
      generalize a.tmps.getD t undef = v at this
      cases this with
      | emp a => exact rep_sl (bx := ⟨[], 0, 0, true⟩) (by rw [List.getElem?_append_right (by omega)]; simp) rfl ⟨a, 0, rfl, Nat.le_refl _, by simp, fun hh => absurd hh (by omega)⟩
    · exact (hs.tmps k).stp h2) (Coe.keep h)
theorem Coe.emp0 {E : Ent} {l l' : List (Nat × AV)} {t sz : Nat} (hl : lk l t = .emp) (h : Keeps ((t, .sl E.H.length 0 0 0 sz false) :: l) l') : Coe E ⟨l, E.H⟩ ⟨l', E.H ++ [⟨[], 0, 0, true⟩]⟩ := by
  have := Coe.emp (E := E) (l := l) (l' := l') (N := []) (t := t) (sz := sz) hl (by simpa using h)
  simpa using this

theorem Shed.weak {E : Ent} {r r' : AV} {H : List Box} (h : ∀ (w : World) (β : Pl) (v : Value), Rep w H β r v → Rep w H β r' v) : Shed E r H r' H := fun w β v hI hs hr => ⟨β, hI, hs, h w β v hr⟩
theorem rep_tup0 {w : World} {H : List Box} {β : Pl} {x : AV} {r : List AV} {v : Value} (h : Rep w H β (.tup (x :: r)) v) : Rep w H β (.tup (.dead :: r)) v := rep_tup_sw (fun x _ => .dead x) h
/-- The first of two results is never looked at. -/
theorem Fin.dead0 {E : Ent} {x : AV} {f : Value} {N : List Box} {K : AV → List Box → Prop} (h : K (.tup [.dead, .v f]) E.H) : Fin E (.tup [x, .v f]) (E.H ++ N) K :=
  ⟨_, _, Shed.trans (Shed.weak fun w β v hr => rep_tup0 hr) (Shed.cut (Lt.cons_tup (.dead) (Lt.cons_tup (.v _) .nil_tup))), h⟩
theorem Fin.dead00 {E : Ent} {x : AV} {f : Value} {K : AV → List Box → Prop} (h : K (.tup [.dead, .v f]) E.H) : Fin E (.tup [x, .v f]) E.H K :=
  ⟨_, _, Shed.weak fun w β v hr => rep_tup0 hr, h⟩

/-- A row of one's own among results, that is only read from now on. -/
theorem Fin.frozG {E : Ent} {N : List Box} {r r' : AV} {b g n sz : Nat} {full : Bool} {bx : Box} {G : List (List AV)} {K : AV → List Box → Prop} (hb : (E.H ++ N)[b]? = some bx) (hge : E.H.length ≤ b) (hg : bx.gen = g) (hfit : n * sz ≤ bx.cells.length) (hG : chunk sz n bx.cells = G)
    (hsw : ∀ (w : World) (H : List Box) (β : Pl) (v : Value), (∀ x, Rep w H β (.sl b g 0 n sz full) x → Rep w H β (.lst sz G) x) → Rep w H β r v → Rep w H β r' v) (hlt : Lt 0 r') (h : K r' E.H) : Fin E r (E.H ++ N) K :=
  ⟨r', E.H, fun w β v hI hs hr => by
    obtain ⟨h1, h2⟩ := freeze_inv hI hb (show 0 + n * sz ≤ bx.cells.length by omega)
    have hbl : b < (E.H ++ N).length := (List.getElem?_eq_some_iff.1 hb).1
    have hr' := hsw w _ β v (fun x hx => by
      have hv : Rep w _ β (.lst sz (chunk sz n (bx.cells.drop 0))) x := rep_view (bx := { bx with ro := max bx.ro (0 + n * sz) }) h1 (List.getElem?_set_self hbl) hg (Nat.le_max_right _ _) hx
      rwa [List.drop_zero, hG] at hv) (hr.stp h2)
    have hs' := hs.trans h2
    rw [List.set_append_right _ _ hge] at h1 hs' hr'
    obtain ⟨g1, g2, g3⟩ := cut_inv h1 hs' (fun i bx hi j c hj => E.inv.ltCells hi hj) (Nat.le_refl _)
    exact ⟨β, g1, g2, g3 _ _ (hlt.mono (Nat.zero_le _)) hr'⟩, h⟩

/-- Cells of strings. -/
def strC (l : List (List UInt8)) : List AV := l.map fun s => AV.v (.string ⟨s.toArray⟩)
@[go_sem] theorem flat_strG (l : List (List UInt8)) : flat (strG l) = strC l := by
  unfold flat strC strG
  induction l with
  | nil => rfl
  | cons a r ih => simp only [List.map_cons, List.flatten_cons, ih]; rfl
@[go_sem] theorem strC_length (l : List (List UInt8)) : (strC l).length = l.length := by simp [strC]
@[go_sem] theorem strC_snoc (l : List (List UInt8)) (s : List UInt8) : strC l ++ [AV.v (.string ⟨s.toArray⟩)] = strC (l ++ [s]) := by simp [strC]
@[go_sem] theorem strC_get (l : List (List UInt8)) (i : Nat) : (strC l)[i]? = (l[i]?).map fun s => AV.v (.string ⟨s.toArray⟩) := by simp [strC]
@[go_sem] theorem strC_drop (l : List (List UInt8)) (n : Nat) : (strC l).drop n = strC (l.drop n) := by simp [strC, List.map_drop]
theorem chunk_strC : ∀ (l : List (List UInt8)) (n : Nat), n = l.length → chunk 1 n (strC l) = strG l := by
  intro l
  induction l with
  | nil => intro n h; subst h; rfl
  | cons a r ih => intro n h; subst h; simp only [List.length_cons, chunk, strC, List.map_cons, List.take_succ_cons, List.take_zero, List.drop_succ_cons, List.drop_zero]; exact congrArg _ (ih r.length rfl)
theorem strC_lt (l : List (List UInt8)) (j : Nat) (c : AV) (h : (strC l)[j]? = some c) : Lt 0 c := by
  simp only [strC, List.getElem?_map] at h
  obtain ⟨b, _, rfl⟩ := Option.map_eq_some_iff.1 h
  exact .v _
theorem fin_strs {E : Ent} {N : List Box} {k g n ro : Nat} {L : List (List UInt8)} {full gr : Bool} {f : Value} {K : AV → List Box → Prop} (hb : N[k]? = some ⟨strC L, ro, g, gr⟩) (hn : n = L.length)
    (h : K (.tup [.lst 1 (strG L), .v f]) E.H) : Fin E (.tup [.sl (E.H.length + k) g 0 n 1 full, .v f]) (E.H ++ N) K :=
  Fin.frozG (bx := ⟨strC L, ro, g, gr⟩) (by rw [getH]; exact hb) (by omega) rfl (by dsimp only; rw [strC_length]; omega) (chunk_strC L n hn)
    (fun w H β v hsw hr => rep_tup_sw hsw hr) ((lt_str L).cons_tup ((Lt.v _).cons_tup .nil_tup)) h

/-! ### Operations one by one, where one has another rule -/
section
variable {P : Program} {E : Ent} {ops : Array Oper} {Q : AExit → ASt → Prop}
def SOps (P : Program) (E : Ent) (ops : Array Oper) (Q : AExit → ASt → Prop) (l : List Oper) (σ : ASt) : Prop := ∀ (a : Act) (w : World), Sim E σ a w → wpList P ops (lift E Q) l a w
theorem AWP.region_s {σ : ASt} {id : Nat} {l : List Oper} (h : ∀ Q' : AExit → ASt → Prop, (∀ e σ, Q e σ → Q' e σ) → SOps P E l.toArray Q' l σ) : AWP P E (.region id l.toArray false) Q σ := fun a w hs => wp_region_list (by simpa using h Q (fun _ _ h => h) a w hs)
theorem SOps.nil {σ : ASt} (h : Q .normal σ) : SOps P E ops Q [] σ := fun a w hs => ⟨σ, h, hs⟩
theorem SOps.step {o : Oper} {rest : List Oper} {σ : ASt}
    (h : ∀ T : ASt → Prop, (∀ σ, SOps P E ops Q rest σ → T σ) → match o.guard with
      | none => aone P E Q o T σ
      | some (j, want) => match ayield ops σ.tmps j with
        | some (some t) => Branch t want σ (aone P E Q o T) (askip E o T)
        | some none => askip E o T σ
        | none => False) : SOps P E ops Q (o :: rest) σ := fun a w hs => by
  have h := h _ fun σ h => h
  obtain ⟨β, hs⟩ := hs
  unfold wpList
  split at h
  · rename_i hg
    rw [if_pos (by simp [Region.wanted, hg])]
    exact .inl (aone_sound h hs fun σ' a' w' k s => k a' w' s)
  · rename_i j want hg
    split at h
    · rename_i t hy
      have hyy := yield_sim hs hy
      by_cases ht : t = want
      · rw [if_pos (by simp [Region.wanted, hg, hyy, ht])]
        exact .inl (aone_sound (h.1 ht) hs fun σ' a' w' k s => k a' w' s)
      · rw [if_neg (by simp [Region.wanted, hg, hyy, ht])]
        obtain ⟨h1, h2⟩ := h.2 ht
        exact h2 _ _ ⟨β, hs.put o.dst h1 hs.inv (Stp.refl _ _ _) (.v _)⟩
    · rename_i hy
      have hyy := yield_sim hs hy
      rw [if_neg (by simp [Region.wanted, hg, hyy])]
      obtain ⟨h1, h2⟩ := h
      exact h2 _ _ ⟨β, hs.put o.dst h1 hs.inv (Stp.refl _ _ _) (.v _)⟩
    · exact h.elim

/-- A new box, in a new block, whatever else the step marks. -/
theorem newb2 {base : Nat} {w w' : World} {H : List Box} {β : Pl} (hI : Inv base w H β) (hw : Wor w w') (keep : ∀ k x, k < w.heap.size → w'.cell? ⟨k, x, none⟩ = w.cell? ⟨k, x, none⟩) (hsz : w.heap.size < w'.heap.size) (bx : Box) (hro : bx.ro ≤ bx.cells.length)
    (hfree : ∀ x, bx.ro ≤ x → (bx.grow = true ∨ x < bx.cells.length) → (∃ v, w'.cell? ⟨w.heap.size, x, none⟩ = some v) → w'.frozen? ⟨w.heap.size, x, none⟩ = false)
    (hcells : ∀ (j : Nat) (c : AV), bx.cells[j]? = some c → ∃ x, w'.cell? ⟨w.heap.size, j, none⟩ = some x ∧ x.oneCell' = true ∧ Rep w H β c x) :
    Inv base w' (H ++ [bx]) (upd β H.length (w.heap.size, 0)) ∧ Stp base w H β w' (H ++ [bx]) (upd β H.length (w.heap.size, 0)) := by
  have hget : ∀ i bx1, (H ++ [bx])[i]? = some bx1 → (i = H.length ∧ bx1 = bx) ∨ (i ≠ H.length ∧ H[i]? = some bx1) := by
    intro i bx1 h
    rcases Nat.lt_trichotomy i H.length with hi | hi | hi
    · rw [List.getElem?_append_left hi] at h
      exact .inr ⟨by omega, h⟩
    · subst hi
      rw [List.getElem?_append_right (Nat.le_refl _)] at h
      simp at h
      exact .inl ⟨rfl, h.symm⟩
    · rw [List.getElem?_append_right (by omega)] at h
      have : i - H.length ≠ 0 := by omega
      simp [this] at h
  have hlen : ∀ i bx1, H[i]? = some bx1 → i ≠ H.length := fun i bx1 h => by have := (List.getElem?_eq_some_iff.1 h).1; omega
  have hst : Stp base w H β w' (H ++ [bx]) (upd β H.length (w.heap.size, 0)) := by
    refine ⟨hw.os, hw.tape, hw.output, hw.size, hw.shape', hw.other, fun k x hk _ => keep k x hk, fun k x hk hwr => ?_, fun i bi hi => ?_⟩
    · obtain ⟨i, bi, s, h1, h2, h3, h4⟩ := hwr
      rcases hget i bi h1 with ⟨rfl, rfl⟩ | ⟨hi, h1⟩
      · rw [upd_same] at h2
        injection h2 with h2
        injection h2 with e1 e2
        omega
      · rw [upd_ne β _ hi] at h2
        exact ⟨i, bi, s, h1, h2, h3, h4⟩
    · exact ⟨bi, by rw [List.getElem?_append_left (List.getElem?_eq_some_iff.1 hi).1]; exact hi, Nat.le_refl _, fun _ => upd_ne β _ (hlen i bi hi)⟩
  refine ⟨⟨hI.bseS hst, fun i bi hi => ?_, fun i bi hi hv => ?_, fun i bi k s hi hl => ?_, fun i bi k s hi hl j c hj => ?_, fun k x hwr hcx => ?_, fun i i' bi bi' k s s' x hne hi hi' hl hl' h1 h2 h3 => ?_⟩, hst⟩
  · rcases hget i bi hi with ⟨rfl, rfl⟩ | ⟨_, h⟩
    · exact hro
    · exact hI.ro i bi h
  · rcases hget i bi hi with ⟨rfl, rfl⟩ | ⟨hi', h⟩
    · rw [upd_same] at hv; cases hv
    · exact hI.virt i bi h (by rwa [upd_ne β _ hi'] at hv)
  · rcases hget i bi hi with ⟨rfl, rfl⟩ | ⟨hi', h⟩
    · rw [upd_same] at hl
      injection hl with hl
      injection hl with e1 e2
      subst e1
      exact ⟨hI.bse.le, hsz⟩
    · rw [upd_ne β _ hi'] at hl
      obtain ⟨h1, h2⟩ := hI.real i bi k s h hl
      exact ⟨h1, Nat.lt_of_lt_of_le h2 hw.size⟩
  · rcases hget i bi hi with ⟨rfl, rfl⟩ | ⟨hi', h⟩
    · rw [upd_same] at hl
      injection hl with hl
      injection hl with e1 e2
      subst e1; subst e2
      obtain ⟨x, g1, g0, g2⟩ := hcells j c hj
      exact ⟨x, by rw [Nat.zero_add]; exact g1, g0, g2.stp hst⟩
    · rw [upd_ne β _ hi'] at hl
      obtain ⟨x, g1, g0, g2⟩ := hI.cells i bi k s h hl j c hj
      exact ⟨x, by rw [keep k _ (hI.real i bi k s h hl).2]; exact g1, g0, g2.stp hst⟩
  · obtain ⟨i, bi, s, h1, h2, h3, h4⟩ := hwr
    rcases hget i bi h1 with ⟨rfl, rfl⟩ | ⟨hi', h⟩
    · rw [upd_same] at h2
      injection h2 with h2
      injection h2 with e1 e2
      subst e1; subst e2
      exact hfree x (by omega) (h4.imp id fun hh => by omega) hcx
    · rw [upd_ne β _ hi'] at h2
      rw [hw.frozen (hI.real i bi k s h h2).2]
      exact hI.free k x ⟨i, bi, s, h, h2, h3, h4⟩ (hw.back (hI.real i bi k s h h2).2 hcx)
  · rcases hget i bi hi with ⟨rfl, rfl⟩ | ⟨hib, h⟩
    · rcases hget i' bi' hi' with ⟨rfl, rfl⟩ | ⟨hib', h'⟩
      · exact absurd rfl hne
      · rw [upd_same] at hl
        rw [upd_ne β _ hib'] at hl'
        injection hl with hl
        injection hl with e1 e2
        have hlt := (hI.real i' bi' _ s' h' hl').2
        omega
    · rw [upd_ne β _ hib] at hl
      rcases hget i' bi' hi' with ⟨rfl, rfl⟩ | ⟨hib', h'⟩
      · rw [upd_same] at hl'
        injection hl' with hl'
        injection hl' with e1 e2
        have hlt := (hI.real i bi _ s h hl).2
        omega
      · rw [upd_ne β _ hib'] at hl'
        exact hI.apart i i' bi bi' k s s' x hne h h' hl hl' h1 h2 h3

/-- A string's bytes, as a row of one's own. -/
theorem does_convOwn {base : Nat} {w : World} {H : List Box} {β : Pl} {ρ : Operand → Value} {o : Oper} (hI : Inv base w H β) {s d e : TypeId} {x : Operand} {u : TypeDesc} {b : ByteArray} (hx : ρ x = .string b) (ho : o.op = .convert s d x) (hs : P.underlying s = some u) (hd : P.underlying d = some (.slice e)) (he : P.underlying e = some (.int .u8)) :
    ∃ v w' β', (execOp ρ o).run P w = .ok (.value v) w' ∧ Inv base w' (H ++ [⟨bytesC b.data.toList, 0, 0, false⟩]) β' ∧ Stp base w H β w' (H ++ [⟨bytesC b.data.toList, 0, 0, false⟩]) β' ∧ Rep w' (H ++ [⟨bytesC b.data.toList, 0, 0, false⟩]) β' (.sl H.length 0 0 b.size 1 false) v := by
  have hrun := run_convert_string_bytes (P := P) w s d e b hs hd he
  have hk : ∀ k x, k < w.heap.size → (bytesWorld w e b).cell? ⟨k, x, none⟩ = w.cell? ⟨k, x, none⟩ := fun k x hk => bytesWorld_old w e b ⟨k, x, none⟩ hk
  have hw : Wor w (bytesWorld w e b) := ⟨rfl, rfl, rfl, by rw [bytesWorld_size]; omega, fun k c e' fr hh => ⟨c, by rw [bytesWorld_at_old w e b k (Array.getElem?_eq_some_iff.1 hh).1]; exact hh, rfl⟩, fun k o hh _ => by rw [bytesWorld_at_old w e b k (Array.getElem?_eq_some_iff.1 hh).1]; exact hh⟩
  have hnew := bytesWorld_at_new w e b
  have hlen : (bytesC b.data.toList).length = b.size := by rw [bytesC_length]; rfl
  obtain ⟨g1, g2⟩ := newb2 hI hw hk (by rw [bytesWorld_size]; omega) ⟨bytesC b.data.toList, 0, 0, false⟩ (Nat.zero_le _) (fun x _ hx _ => by
      have hx : x < b.size := by
        rcases hx with h | h
        · cases h
        · dsimp only at h; omega
      unfold World.frozen?
      dsimp only
      rw [hnew]
      have : b.size ≤ (bytesCells w e b).size := by simp [bytesCells]
      simp
      omega) (fun j c hj => by
      have hjl := (List.getElem?_eq_some_iff.1 hj).1
      refine ⟨_, bytesWorld_cell w e b j (by dsimp only at hjl; omega), rfl, ?_⟩
      simp only [bytesC, List.getElem?_map] at hj
      obtain ⟨y, hy, rfl⟩ := Option.map_eq_some_iff.1 hj
      rw [List.getD_eq_getElem?_getD, hy]
      exact .v _)
  refine ⟨.slice (some ⟨w.heap.size, 0, none⟩) b.size (grownCap w b.size 0 e), _, _, ?_, g1, g2, ?_⟩
  · simp only [execOp, ho, hx, Sem.run_bind, hrun, Result.andThen_ok, Sem.run_pure]
  · refine rep_sl (bx := ⟨bytesC b.data.toList, 0, 0, false⟩) (by simp) rfl ?_
    rw [upd_same]
    exact ⟨_, grownCap w b.size 0 e, rfl, Nat.le_add_right _ _, by simp, fun _ => ⟨w.heap.size, 0, _, _, _, rfl, rfl, hnew, by simp [bytesCells]; omega⟩⟩

theorem does_convOwnG {base : Nat} {w : World} {H : List Box} {β : Pl} {ρ : Operand → Value} {o : Oper} (hI : Inv base w H β) {s d e : TypeId} {x : Operand} {u : TypeDesc} {b : ByteArray} (hx : ρ x = .string b) (ho : o.op = .convert s d x) (hs : P.underlying s = some u) (hd : P.underlying d = some (.slice e)) (he : P.underlying e = some (.int .u8)) :
    ∃ v w' β', (execOp ρ o).run P w = .ok (.value v) w' ∧ Inv base w' (H ++ [⟨bytesC b.data.toList, 0, 0, true⟩]) β' ∧ Stp base w H β w' (H ++ [⟨bytesC b.data.toList, 0, 0, true⟩]) β' ∧ Rep w' (H ++ [⟨bytesC b.data.toList, 0, 0, true⟩]) β' (.sl H.length 0 0 b.size 1 false) v := by
  have hrun := run_convert_string_bytes (P := P) w s d e b hs hd he
  have hk : ∀ k x, k < w.heap.size → (bytesWorld w e b).cell? ⟨k, x, none⟩ = w.cell? ⟨k, x, none⟩ := fun k x hk => bytesWorld_old w e b ⟨k, x, none⟩ hk
  have hw : Wor w (bytesWorld w e b) := ⟨rfl, rfl, rfl, by rw [bytesWorld_size]; omega, fun k c e' fr hh => ⟨c, by rw [bytesWorld_at_old w e b k (Array.getElem?_eq_some_iff.1 hh).1]; exact hh, rfl⟩, fun k o hh _ => by rw [bytesWorld_at_old w e b k (Array.getElem?_eq_some_iff.1 hh).1]; exact hh⟩
  have hnew := bytesWorld_at_new w e b
  have hlen : (bytesC b.data.toList).length = b.size := by rw [bytesC_length]; rfl
  obtain ⟨g1, g2⟩ := newb2 hI hw hk (by rw [bytesWorld_size]; omega) ⟨bytesC b.data.toList, 0, 0, true⟩ (Nat.zero_le _) (fun x _ _ hc => by
      obtain ⟨v, hc⟩ := hc
      unfold World.cell? at hc
      dsimp only at hc
      rw [hnew] at hc
      simp at hc
      have hx := (Array.getElem?_eq_some_iff.1 hc).1
      unfold World.frozen?
      dsimp only
      rw [hnew]
      simp
      omega) (fun j c hj => by
      have hjl := (List.getElem?_eq_some_iff.1 hj).1
      refine ⟨_, bytesWorld_cell w e b j (by dsimp only at hjl; omega), rfl, ?_⟩
      simp only [bytesC, List.getElem?_map] at hj
      obtain ⟨y, hy, rfl⟩ := Option.map_eq_some_iff.1 hj
      rw [List.getD_eq_getElem?_getD, hy]
      exact .v _)
  refine ⟨.slice (some ⟨w.heap.size, 0, none⟩) b.size (grownCap w b.size 0 e), _, _, ?_, g1, g2, ?_⟩
  · simp only [execOp, ho, hx, Sem.run_bind, hrun, Result.andThen_ok, Sem.run_pure]
  · refine rep_sl (bx := ⟨bytesC b.data.toList, 0, 0, true⟩) (by simp) rfl ?_
    rw [upd_same]
    exact ⟨_, grownCap w b.size 0 e, rfl, Nat.le_add_right _ _, by simp, fun _ => ⟨w.heap.size, 0, _, _, _, rfl, rfl, hnew, by simp [bytesCells]; omega⟩⟩

theorem SOps.own {dst : Option Tmp} {s d : TypeId} {x : Operand} {ty : TypeId} {pos : String} {after : Array Edge} {rest : List Oper} {σ : ASt}
    (h : ∀ T : ASt → Prop, (∀ σ, SOps P E ops Q rest σ → T σ) → dstOk E dst ∧ match P.underlying s, P.underlying d, aeval σ.tmps x with
      | some _, some (.slice e), .v (.string b) => P.underlying e = some (.int .u8) ∧ T ⟨put σ.tmps dst (.sl σ.H.length 0 0 b.size 1 false), σ.H ++ [⟨bytesC b.data.toList, 0, 0, false⟩]⟩
      | _, _, _ => False) : SOps P E ops Q ({ dst := dst, op := .convert s d x, type := ty, pos := pos, after := after, guard := none } :: rest) σ := fun a w hs => by
  obtain ⟨hd, h⟩ := h _ fun σ h => h
  obtain ⟨β, hs⟩ := hs
  unfold wpList
  rw [if_pos (by simp [Region.wanted])]
  left
  split at h
  · rename_i u e b h1 h2 h3
    obtain ⟨h4, h⟩ := h
    have hx := hs.eval x
    rw [h3] at hx
    generalize hv : a.eval x = v at hx
    cases hx
    obtain ⟨v, w', β', r1, r2, r3, r4⟩ := does_convOwn (P := P) (o := { dst := dst, op := .convert s d x, type := ty, pos := pos, after := after, guard := none }) hs.inv hv rfl h1 h2 h4
    unfold Oper.wp
    rw [r1, Oper.upon_value]
    exact h _ _ ⟨β', hs.put dst hd r2 r3 r4⟩
  · exact h.elim
/-- The same, as a row that may grow. -/
theorem SOps.ownG {dst : Option Tmp} {s d : TypeId} {x : Operand} {ty : TypeId} {pos : String} {after : Array Edge} {rest : List Oper} {σ : ASt}
    (h : ∀ T : ASt → Prop, (∀ σ, SOps P E ops Q rest σ → T σ) → dstOk E dst ∧ match P.underlying s, P.underlying d, aeval σ.tmps x with
      | some _, some (.slice e), .v (.string b) => P.underlying e = some (.int .u8) ∧ T ⟨put σ.tmps dst (.sl σ.H.length 0 0 b.size 1 false), σ.H ++ [⟨bytesC b.data.toList, 0, 0, true⟩]⟩
      | _, _, _ => False) : SOps P E ops Q ({ dst := dst, op := .convert s d x, type := ty, pos := pos, after := after, guard := none } :: rest) σ := fun a w hs => by
  obtain ⟨hd, h⟩ := h _ fun σ h => h
  obtain ⟨β, hs⟩ := hs
  unfold wpList
  rw [if_pos (by simp [Region.wanted])]
  left
  split at h
  · rename_i u e b h1 h2 h3
    obtain ⟨h4, h⟩ := h
    have hx := hs.eval x
    rw [h3] at hx
    generalize hv : a.eval x = v at hx
    cases hx
    obtain ⟨v, w', β', r1, r2, r3, r4⟩ := does_convOwnG (P := P) (o := { dst := dst, op := .convert s d x, type := ty, pos := pos, after := after, guard := none }) hs.inv hv rfl h1 h2 h4
    unfold Oper.wp
    rw [r1, Oper.upon_value]
    exact h _ _ ⟨β', hs.put dst hd r2 r3 r4⟩
  · exact h.elim
/-- A literal's row, as one of one's own. -/
def abuildO (P : Program) (A : Operand → AV) (t : TypeId) (len : Nat) (ps : Array (Nat × Operand)) : Option (Nat × List AV) :=
  match P.underlying t with
  | some (.slice e) =>
    if len ≠ 0 ∧ (zeroCs P e).isSome = true ∧ (P.underlying e).isSome = true ∧ len * P.cellsOf e ≤ 16777216 then
      (afill (fun i => some (i * P.cellsOf e, P.cellsOf e)) (List.replicate (len * P.cellsOf e) .dead) (parts A ps)).bind fun cs => if cs.all AV.one = true then some (P.cellsOf e, cs) else none
    else none
  | _ => none
attribute [go_sem] abuildO
theorem does_buildOwn {base : Nat} {w : World} {H : List Box} {β : Pl} {ρ : Operand → Value} {A : Operand → AV} {o : Oper} (hI : Inv base w H β) (hA : ∀ x, Rep w H β (A x) (ρ x)) {t : TypeId} {len : Nat} {ps : Array (Nat × Operand)} (ho : o.op = .buildSlice t len ps) {sz : Nat} {cs : List AV} (h : abuildO P A t len ps = some (sz, cs)) :
    ∃ v w' β', (execOp ρ o).run P w = .ok (.value v) w' ∧ Inv base w' (H ++ [⟨cs, 0, 0, true⟩]) β' ∧ Stp base w H β w' (H ++ [⟨cs, 0, 0, true⟩]) β' ∧ Rep w' (H ++ [⟨cs, 0, 0, true⟩]) β' (.sl H.length 0 0 len sz false) v := by
  unfold abuildO at h
  split at h
  · rename_i e hu
    split at h
    · rename_i hk
      obtain ⟨hl, hz, hk, hle⟩ := hk
      obtain ⟨z, hz⟩ := Option.isSome_iff_exists.1 hz
      obtain ⟨d, hd⟩ := Option.isSome_iff_exists.1 hk
      obtain ⟨out, h1, h⟩ := Option.bind_eq_some_iff.1 h
      have hone : out.all AV.one = true := Classical.byContradiction fun hh => by rw [if_neg hh] at h; cases h
      rw [if_pos hone] at h
      injection h with h
      injection h with e1 e2
      subst e1; subst e2
      obtain ⟨zv, h2, _, _⟩ := zero_run hz w
      obtain ⟨p1, p2⟩ := parts_rep hA ps
      have hlen := afill_length _ _ _ _ h1
      simp only [List.length_replicate] at hlen
      obtain ⟨zs, hzs⟩ : ∃ zs : Array Value, zs = if len * P.cellsOf e = 0 then #[] else zv.cells := ⟨_, rfl⟩
      obtain ⟨vs', r1, r2, r3⟩ := fill_rep (w := w) (H := H) (β := β) (fun i => some (i * P.cellsOf e, P.cellsOf e)) _ (parts A ps) ((Array.range (len * P.cellsOf e)).map (zs[· % zs.size]!)) (List.replicate (len * P.cellsOf e) .dead) out (by simp) (fun i d y hd hy => by
        simp [List.getElem?_replicate] at hd
        rw [← hd.2]
        exact .dead _) p1 p2 h1
      obtain ⟨g1, g2⟩ := newb hI vs' e ⟨out, 0, 0, true⟩ (Nat.zero_le _) (fun j c hj => by
        have hjl := (List.getElem?_eq_some_iff.1 hj).1
        have hrr := r3 j c _ hj (Array.getElem?_eq_getElem (show j < vs'.size by dsimp only at hjl; omega))
        exact ⟨vs'[j]'(by dsimp only at hjl; omega), Array.getElem?_eq_getElem _, hrr.one (List.all_eq_true.1 hone _ (List.mem_of_getElem? hj)), hrr⟩)
      refine ⟨.slice (some ⟨w.heap.size, 0, none⟩) len len, w.alloc (.cells vs' e), _, ?_, g1, g2, ?_⟩
      · have hle' : ¬ (len * P.cellsOf e > 2 ^ 24) := by omega
        simp only [execOp, ho, Instr.buildSlice, Sem.run_bind, run_underlying hu, Result.andThen_ok, run_sizeOf' hd, if_neg hle', Sem.run_ite]
        by_cases h0 : len * P.cellsOf e = 0
        · rw [if_pos h0] at hzs
          subst hzs
          simp only [if_pos h0, Sem.run_bind, Sem.run_pure, Result.andThen_ok]
          rw [r1]
          simp [alloc_run]
        · rw [if_neg h0] at hzs
          subst hzs
          simp only [if_neg h0, Sem.run_bind, h2, Sem.run_pure, Result.andThen_ok]
          rw [r1]
          simp [alloc_run]
      · refine rep_sl (bx := ⟨out, 0, 0, true⟩) (by simp) rfl ?_
        rw [upd_same]
        exact ⟨_, len, rfl, Nat.le_refl _, by simp, fun _ => ⟨w.heap.size, 0, vs', e, (0, 0), rfl, rfl, Array.getElem?_push_size, by omega⟩⟩
    · cases h
  · cases h
theorem SOps.ownB {dst : Option Tmp} {t : TypeId} {n : Nat} {ps : Array (Nat × Operand)} {ty : TypeId} {pos : String} {after : Array Edge} {rest : List Oper} {σ : ASt}
    (h : ∀ T : ASt → Prop, (∀ σ, SOps P E ops Q rest σ → T σ) → dstOk E dst ∧ match abuildO P (fun x => unlit (aeval σ.tmps x)) t n ps with
      | some (sz, cs) => T ⟨put σ.tmps dst (.sl σ.H.length 0 0 n sz false), σ.H ++ [⟨cs, 0, 0, true⟩]⟩
      | none => False) : SOps P E ops Q ({ dst := dst, op := .buildSlice t n ps, type := ty, pos := pos, after := after, guard := none } :: rest) σ := fun a w hs => by
  obtain ⟨hd, h⟩ := h _ fun σ h => h
  obtain ⟨β, hs⟩ := hs
  unfold wpList
  rw [if_pos (by simp [Region.wanted])]
  left
  split at h
  · rename_i sz cs h1
    obtain ⟨v, w', β', r1, r2, r3, r4⟩ := does_buildOwn (P := P) (o := { dst := dst, op := .buildSlice t n ps, type := ty, pos := pos, after := after, guard := none }) hs.inv (fun x => unlit_rep (hs.eval x)) rfl h1
    unfold Oper.wp
    rw [r1, Oper.upon_value]
    exact h _ _ ⟨β', hs.put dst hd r2 r3 r4⟩
  · exact h.elim
end

/-- A region whose operations from n on run one behind the other, behind all others. -/
theorem AWP.drawTn_k {P : Program} {E : Ent} {H : List Box} {Q : AExit → ASt → Prop} {id : Nat} {os : List Oper} {l : List (Nat × AV)} (n : Nat) (hm : P.follows .mixedOrders = true) (hB : Region.lexTailB .any os.toArray n = true)
    (h : ∀ Q' : AExit → ASt → Prop, (∀ e σ, Q e σ → Q' e σ) → qops P E os.toArray H (fun l => aops P E os.toArray Q' (os.drop n) ⟨l, H⟩) (os.take n) l) :
    AWP P E (.region id os.toArray true) Q ⟨l, H⟩ := AWP.drawT _ hm hB (h Q fun _ _ h => h)
/-- A function that changes one box, in a region that draws its order. -/
theorem hcall.wr {P : Program} {base : Nat} {f : FuncId} {args : List AV} {X : (Nat → Box) → List Box} {Y : Box → (Nat → Box) → List Box} {K : AV → Box → Prop} {r : AV} {b : Box} (h : ∀ f', ASpec P f args (X f') (fun o H' => o = .ret r ∧ H' = Y b f')) (hK : K r b) :
    ∃ r b, (∀ f', acall P base f args (X f') (fun o H' => o = .ret r ∧ H' = Y b f')) ∧ K r b := ⟨r, b, fun f' => h f' base, hK⟩

theorem hcall.wr0 {P : Program} {base : Nat} {f : FuncId} {args : List AV} {X : List Box} {Y : Box → List Box} {K : AV → Box → Prop} {r : AV} {b : Box} (h : ASpec P f args X (fun o H' => o = .ret r ∧ H' = Y b)) (hK : K r b) :
    ∃ r b, acall P base f args X (fun o H' => o = .ret r ∧ H' = Y b) ∧ K r b := ⟨r, b, h base, hK⟩

/-- A scope through which a run goes without a jump. -/
def AExit.noGoto (Q : AExit → ASt → Prop) : AExit → ASt → Prop
  | .goto _, _ => False
  | e, σ => Q e σ
theorem AWP.scope {P : Program} {E : Ent} {Q : AExit → ASt → Prop} {σ : ASt} {c : Code} (h : AWP P E c (AExit.noGoto Q) σ) : AWP P E (.scope c) Q σ := fun a w hs => by
  refine wp_scope_straight (wp_mono (h a w hs) fun e a' w' hl => ?_)
  cases e with
  | goto l => obtain ⟨σ', h1, _⟩ := hl; exact h1
  | normal => exact hl
  | exit id => exact hl
  | ret => exact hl
  | panic chain => exact hl
  | outgrown => exact hl
@[go_sem] theorem AExit.noGoto_normal {Q : AExit → ASt → Prop} {σ : ASt} : AExit.noGoto Q .normal σ = Q .normal σ := rfl
@[go_sem] theorem AExit.noGoto_exit {Q : AExit → ASt → Prop} {σ : ASt} {id : Nat} : AExit.noGoto Q (.exit id) σ = Q (.exit id) σ := rfl
@[go_sem] theorem AExit.noGoto_ret {Q : AExit → ASt → Prop} {σ : ASt} : AExit.noGoto Q .ret σ = Q .ret σ := rfl

/-- The last loop of a code, of those that stand in no other loop. -/
def lastLoop : Code → Option Code
  | .loop c => some c
  | .seq a b => match lastLoop b with
    | some c => some c
    | none => lastLoop a
  | .block _ c => lastLoop c
  | .scope c => lastLoop c
  | .cond _ a b => match lastLoop b with
    | some c => some c
    | none => lastLoop a
  | _ => none
/-- The first loop of a code. -/
def firstLoop : Code → Option Code
  | .loop c => some c
  | .seq a b => match firstLoop a with
    | some c => some c
    | none => firstLoop b
  | .block _ c => firstLoop c
  | .scope c => firstLoop c
  | .cond _ a b => match firstLoop a with
    | some c => some c
    | none => firstLoop b
  | _ => none

/-- Boxes behind the first are forgotten at a round's end. -/
theorem Coe.cutN {E : Ent} {l l' : List (Nat × AV)} {M N : List Box} (h : Keeps l l') (hlt : ∀ p ∈ l', Lt (E.H.length + M.length) p.2) (hc : ∀ bx ∈ M, ∀ c ∈ bx.cells, Lt (E.H.length + M.length) c) : Coe E ⟨l, E.H ++ (M ++ N)⟩ ⟨l', E.H ++ M⟩ := fun a w ⟨β, hs⟩ => by
  have hinv := hs.inv
  have hstp := hs.stp
  dsimp only at hinv hstp
  rw [← List.append_assoc] at hinv hstp
  have hlen : (E.H ++ M).length = E.H.length + M.length := List.length_append
  obtain ⟨g1, g2, g3⟩ := cut_inv hinv hstp (fun i bx hi j c hj => by
    by_cases hil : i < E.H.length
    · rw [List.getElem?_append_left hil] at hi
      exact (E.inv.ltCells hi hj).mono (by omega)
    · rw [List.getElem?_append_right (by omega)] at hi
      rw [hlen]
      exact hc bx (List.mem_of_getElem? hi) c (List.mem_of_getElem? hj)) (by omega)
  refine ⟨β, ⟨hs.defers, hs.size, g1, g2, fun k => ?_⟩⟩
  have hr := hs.tmps k
  dsimp only at hr
  rw [← List.append_assoc] at hr
  rcases lk_keep h k with hk | hk
  · dsimp only
    by_cases hdead : lk l' k = .dead
    · rw [hdead]; exact .dead _
    · have : ∃ p ∈ l', p.2 = lk l' k := by
        clear h hr hk hlt
        induction l' with
        | nil => exact absurd rfl hdead
        | cons q r ih =>
          obtain ⟨n, v⟩ := q
          simp only [lk_cons] at hdead ⊢
          by_cases hq : n = k
          · rw [if_pos hq]; exact ⟨(n, v), by simp, rfl⟩
          · rw [if_neg hq] at hdead ⊢
            obtain ⟨p, hp, e⟩ := ih hdead
            exact ⟨p, by simp [hp], e⟩
      obtain ⟨p, hp, e⟩ := this
      have hl := hlt p hp
      rw [e] at hl
      rw [hk] at hl ⊢
      exact g3 _ _ (by rw [hlen]; exact hl) hr
  · dsimp only
    rw [hk]; exact .dead _

end Go.Proofs.YtnlmdeeadldgmaaGreatDoor.VL

/- The value logic, part 6: append, copy, make. -/
import Derived.Test.YtnlmdeeadldgmaaGreatDoorZVLOps4
set_option linter.unusedVariables false
set_option linter.unusedSimpArgs false
namespace Go.Proofs.YtnlmdeeadldgmaaGreatDoor.VL
open Go Go.RowKit Go.Lib

section ops
variable {P : Program} {ρ : Operand → Value} {A : Operand → AV} {o : Oper} {base : Nat} {w : World} {H : List Box} {β : Pl}

def notInt (P : Program) (t : TypeId) : Bool := match P.underlying t with | some (.slice _) | some .string => true | _ => false

theorem run_append_grow' {t t2 ty e : TypeId} {i : TypeInfo} {z : Value} (ht : P.underlying t = some (.slice e)) (h2 : notInt P t2 = true) (hi : P.info? e = some i) (hz : i.zero = some z)
    {a : Option Addr} {n cap m : Nat} {x : Value} {olds news : List Value} (hx : ∀ w', (Builtin.lenOf x).run P w' = .ok m w')
    (ho : (Builtin.firstCells i.size n (.slice a n cap)).run P w.drew = .ok olds.toArray w.drew) (hnw : (Builtin.firstCells i.size m x).run P w.drew = .ok news.toArray w.drew)
    (hg : cap < n + m) (h63 : ((n + m : Nat) : Int) ≤ 9223372036854775807) (hfit : Builtin.nextslicecap (n + m) cap * i.bytes ≤ 281474976710656) :
    (Builtin.append_ #[t, t2] ty #[.slice a n cap, x]).run P w =
      .ok (.slice (some ⟨w.heap.size, 0, none⟩) (n + m) (grownCap w (n + m) cap e))
        (w.drew.alloc (.cells (olds.toArray ++ news.toArray ++ Builtin.zeroCells z.cells (grownCap w (n + m) cap e - (n + m))) e)) := by
  have hn : ¬ (n + m ≤ cap) := by omega
  have h63' : ¬ (9223372036854775807 < ((n : Int) + (m : Int))) := by omega
  have h48' : ¬ (281474976710656 < Builtin.nextslicecap (n + m) cap * i.bytes) := by omega
  unfold notInt at h2
  split at h2
  · rename_i e' hd2
    simp [Builtin.append_, run_underlying ht, run_underlying hd2, sizeOf, typeInfo, zeroValue, hi, hz, hx, hn, h63', h48', Question.forced, hnw, ho, newRow, grownCap]
    congr 2
    apply Array.ext'
    simp
  · rename_i hd2
    simp [Builtin.append_, run_underlying ht, run_underlying hd2, sizeOf, typeInfo, zeroValue, hi, hz, hx, hn, h63', h48', Question.forced, hnw, ho, newRow, grownCap]
    congr 2
    apply Array.ext'
    simp
  · cases h2

/-- Within the capacity. -/
theorem run_append_fits' {t t2 ty e : TypeId} {d : TypeDesc} (ht : P.underlying t = some (.slice e)) (hd : P.underlying e = some d) (h2 : notInt P t2 = true)
    {k s n cap m : Nat} {x : Value} {news : List Value} (hx : ∀ w', (Builtin.lenOf x).run P w' = .ok m w')
    (hnw : (Builtin.firstCells (P.cellsOf e) m x).run P w = .ok news.toArray w) (hg : n + m ≤ cap) {w' : World}
    (hst : (storeCells ⟨k, s + n * P.cellsOf e, none⟩ news).run P w = .ok () w') :
    (Builtin.append_ #[t, t2] ty #[.slice (some ⟨k, s, none⟩) n cap, x]).run P w = .ok (.slice (some ⟨k, s, none⟩) (n + m) cap) w' := by
  unfold notInt at h2
  split at h2
  · rename_i e' hd2
    simp [Builtin.append_, run_underlying ht, run_underlying hd2, run_sizeOf' hd, hx, hg, hnw, add_plain, hst]
  · rename_i hd2
    simp [Builtin.append_, run_underlying ht, run_underlying hd2, run_sizeOf' hd, hx, hg, hnw, add_plain, hst]
  · cases h2
theorem run_append_none' {t t2 ty e : TypeId} {d : TypeDesc} (ht : P.underlying t = some (.slice e)) (hd : P.underlying e = some d) (h2 : notInt P t2 = true)
    {x : Value} {a : Option Addr} {n cap : Nat} (hn : n ≤ cap) (hx : ∀ w', (Builtin.lenOf x).run P w' = .ok 0 w') (hnw : (Builtin.firstCells (P.cellsOf e) 0 x).run P w = .ok #[] w) :
    (Builtin.append_ #[t, t2] ty #[.slice a n cap, x]).run P w = .ok (.slice a n cap) w := by
  unfold notInt at h2
  split at h2
  · rename_i e' hd2
    cases a <;> simp [Builtin.append_, run_underlying ht, run_underlying hd2, run_sizeOf' hd, hx, hn, hnw, storeCells]
  · rename_i hd2
    cases a <;> simp [Builtin.append_, run_underlying ht, run_underlying hd2, run_sizeOf' hd, hx, hn, hnw, storeCells]
  · cases h2

/-- The cells of rows, one behind another. -/
def flat (gs : List (List AV)) : List AV := gs.flatten
theorem flat_length {gs : List (List AV)} {sz : Nat} (h : ∀ (i : Nat) (g : List AV), gs[i]? = some g → g.length = sz) : (flat gs).length = gs.length * sz := by
  unfold flat
  induction gs with
  | nil => simp
  | cons g r ih =>
    have h0 := h 0 g rfl
    have := ih (fun i g hi => h (i + 1) g (by simpa using hi))
    simp [this, h0, Nat.add_mul]
    omega
theorem flat_get {gs : List (List AV)} {sz : Nat} (h : ∀ (i : Nat) (g : List AV), gs[i]? = some g → g.length = sz) (j : Nat) (c : AV) (hc : (flat gs)[j]? = some c) :
    ∃ i k g, gs[i]? = some g ∧ g[k]? = some c ∧ j = i * sz + k := by
  unfold flat at hc
  induction gs generalizing j with
  | nil => simp at hc
  | cons g r ih =>
    have h0 := h 0 g rfl
    rw [List.flatten_cons] at hc
    by_cases hj : j < g.length
    · rw [List.getElem?_append_left hj] at hc
      exact ⟨0, j, g, rfl, hc, by omega⟩
    · rw [List.getElem?_append_right (by omega)] at hc
      obtain ⟨i, k, g', h1, h2, h3⟩ := ih (fun i g hi => h (i + 1) g (by simpa using hi)) _ hc
      exact ⟨i + 1, k, g', by simpa using h1, h2, by rw [Nat.add_mul]; omega⟩

theorem Rows'.flat {sz : Nat} {gs : List (List AV)} {vs : List Value} (h : Rows' w H β sz gs vs) : vs.length = (flat gs).length ∧ ∀ (j : Nat) (c : AV), (VL.flat gs)[j]? = some c → ∃ y, vs[j]? = some y ∧ y.oneCell' = true ∧ Rep w H β c y := by
  obtain ⟨h1, h2, h3, h4⟩ := h
  refine ⟨by rw [flat_length h3, h1], fun j c hc => ?_⟩
  obtain ⟨i, k, g, g1, g2, rfl⟩ := flat_get h3 j c hc
  obtain ⟨y, e1, e2⟩ := h4 i k g c g1 g2
  exact ⟨y, e1, h2 y (List.mem_of_getElem? e1), e2⟩

def aappend (P : Program) (t : TypeId) (H : List Box) (s x : AV) : Option (AV × List Box) :=
  match elemTy P t with
  | none => none
  | some e =>
    match asrc (P.cellsOf e) H x with
    | none => none
    | some gs =>
      if (zeroCs P e).map List.length = some (P.cellsOf e) ∧ P.bytesOf e ≠ 0 then
        match s with
        | .emp => if gs.length * P.bytesOf e ≤ 140737488355328 then some (.sl H.length 0 0 gs.length (P.cellsOf e) false, H ++ [⟨flat gs, 0, 0, true⟩]) else none
        | .sl b g off n sz false => match H[b]? with
          | some bx => if bx.gen = g ∧ sz = P.cellsOf e ∧ off + n * sz = bx.cells.length ∧ bx.grow = true ∧ (n + gs.length) * P.bytesOf e ≤ 140737488355328 then
              some (.sl b (g + 1) 0 (n + gs.length) sz false, H.set b ⟨bx.cells.drop off ++ flat gs, bx.ro - off, g + 1, true⟩) else none
          | none => none
        | .sl b g off n sz true => match H[b]? with
          | some bx => if bx.gen = g ∧ sz = P.cellsOf e ∧ off + n * sz ≤ bx.cells.length ∧ 0 < gs.length ∧ (n + gs.length) * P.bytesOf e ≤ 140737488355328 then
              some (.sl H.length 0 0 (n + gs.length) sz false, H ++ [⟨(bx.cells.drop off).take (n * sz) ++ flat gs, 0, 0, true⟩]) else none
          | none => none
        | _ => none
      else none

theorem zero_info {e : TypeId} {n : Nat} (h : (zeroCs P e).map List.length = some n) : ∃ i z, P.info? e = some i ∧ i.zero = some z ∧ i.size = P.cellsOf e ∧ i.bytes = P.bytesOf e ∧ z.cells.size = n := by
  obtain ⟨cs, h, hl⟩ := Option.map_eq_some_iff.1 h
  unfold zeroCs at h
  obtain ⟨z, h1, h2⟩ := Option.bind_eq_some_iff.1 h
  obtain ⟨i, h3, h4⟩ := Option.bind_eq_some_iff.1 h1
  split at h2
  · injection h2 with h2
    subst h2
    exact ⟨i, z, h3, h4, by simp [Program.cellsOf, h3], by simp [Program.bytesOf, h3], by simpa using hl⟩
  · cases h2
theorem zeroCells_size (z : Array Value) (n : Nat) : (Builtin.zeroCells z n).size = n * z.size := by simp [Builtin.zeroCells]

/-- A slice at the head of a new row. -/
theorem sl_new (w : World) (C : Array Value) (e : TypeId) (n cap sz : Nat) (hn : n ≤ cap) (hC : cap * sz ≤ C.size) : SlAt (w.drew.alloc (.cells C e)) (some (w.heap.size, 0)) 0 n sz false (.slice (some ⟨w.heap.size, 0, none⟩) n cap) :=
  ⟨_, cap, rfl, hn, by simp, fun _ => ⟨w.heap.size, 0, C, e, (0, 0), rfl, rfl, by
    show ((w.drew.heap).push (Obj.cells C e))[w.heap.size]? = _
    have : w.drew.heap.size = w.heap.size := rfl
    rw [← this, Array.getElem?_push_size], by omega⟩⟩
theorem grownCap_le (w : World) (n c : Nat) (e : TypeId) : n ≤ grownCap w n c e := Nat.le_add_right _ _

/-- A new row with room behind it, as a box. -/
theorem grown_box (hI : Inv base w H β) {e : TypeId} (cs : List AV) (vs rest : List Value) (hv : ∀ (j : Nat) (c : AV), cs[j]? = some c → ∃ y, vs[j]? = some y ∧ y.oneCell' = true ∧ Rep w H β c y) (hl : vs.length = cs.length) (C : Array Value) (hC : C.toList = vs ++ rest) :
    ∃ β', Inv base (w.drew.alloc (.cells C e)) (H ++ [⟨cs, 0, 0, true⟩]) β' ∧ Stp base w H β (w.drew.alloc (.cells C e)) (H ++ [⟨cs, 0, 0, true⟩]) β' ∧ β' H.length = some (w.heap.size, 0) := by
  obtain ⟨i1, i2⟩ := still (w' := w.drew) hI (Wor.drawn w _) (fun _ _ _ => rfl)
  have := newb i1 C e ⟨cs, 0, 0, true⟩ (Nat.zero_le _) (fun j c hj => by
    obtain ⟨y, h1, h2, h3⟩ := hv j c hj
    refine ⟨y, ?_, h2, h3.stp i2⟩
    rw [← Array.getElem?_toList, hC, List.getElem?_append_left (List.getElem?_eq_some_iff.1 h1).1]
    exact h1)
  exact ⟨_, this.1, i2.trans this.2, upd_same _ _ _⟩

theorem flat_chunk (sz : Nat) : ∀ (n : Nat) (cs : List AV), flat (chunk sz n cs) = cs.take (n * sz) := by
  intro n
  induction n with
  | zero => intro cs; simp [chunk, flat]
  | succ n ih =>
    intro cs
    have := ih (cs.drop sz)
    unfold flat at this ⊢
    rw [chunk, List.flatten_cons, this, Nat.add_mul, Nat.one_mul, Nat.add_comm (n * sz) sz, List.take_add]

/-- What append does where it must have a new row. -/
theorem append_new (hI : Inv base w H β) {t t2 ty e : TypeId} {d : TypeDesc} (hu : P.underlying t = some (.slice e)) (hd : P.underlying e = some d) (h2 : notInt P t2 = true) (hz : (zeroCs P e).map List.length = some (P.cellsOf e)) (hb0 : P.bytesOf e ≠ 0)
    {a : Option Addr} {n cap : Nat} {x : Value} {olds vs : List Value} {gs : List (List AV)} (hlen : ∀ w', (Builtin.lenOf x).run P w' = .ok gs.length w')
    (hold : (Builtin.firstCells (P.cellsOf e) n (.slice a n cap)).run P w.drew = .ok olds.toArray w.drew) (hol : olds.length = n * P.cellsOf e)
    (hfc : (Builtin.firstCells (P.cellsOf e) gs.length x).run P w.drew = .ok vs.toArray w.drew) (hvl : vs.length = gs.length * P.cellsOf e) (hg : cap < n + gs.length) (hbd : (n + gs.length) * P.bytesOf e ≤ 140737488355328) :
    ∃ (C : Array Value) (cap' : Nat), (Builtin.append_ #[t, t2] ty #[.slice a n cap, x]).run P w = .ok (.slice (some ⟨w.heap.size, 0, none⟩) (n + gs.length) cap') (w.drew.alloc (.cells C e)) ∧
      (∃ rest, C.toList = (olds ++ vs) ++ rest) ∧ n + gs.length ≤ cap' ∧ cap' * P.cellsOf e ≤ C.size := by
  obtain ⟨i, z, hi, hiz, hsz, hby, hzs⟩ := zero_info hz
  have hle : (n + gs.length) * 1 ≤ (n + gs.length) * P.bytesOf e := Nat.mul_le_mul_left _ (by omega)
  have hgr := run_append_grow' (P := P) (w := w) (ty := ty) (a := a) (n := n) (cap := cap) (olds := olds) (news := vs) hu h2 hi hiz hlen (by rw [hsz]; exact hold) (by rw [hsz]; exact hfc) (by omega) (by omega) (growslice_fits (by omega) (by rw [hby]; exact hbd))
  refine ⟨_, _, hgr, ⟨(Builtin.zeroCells z.cells (grownCap w (n + gs.length) cap e - (n + gs.length))).toList, by simp⟩, grownCap_le _ _ _ _, ?_⟩
  have hgc := grownCap_le w (n + gs.length) cap e
  generalize grownCap w (n + gs.length) cap e = C at hgc
  simp only [Array.size_append, List.size_toArray, zeroCells_size, hol, hvl, hzs]
  rw [← Nat.add_mul, ← Nat.add_mul]
  have : n + gs.length + (C - (n + gs.length)) = C := by omega
  rw [this]
  exact Nat.le_refl _

theorem does_append (hI : Inv base w H β) (hA : ∀ x, Rep w H β (A x) (ρ x)) {t t2 : TypeId} {s x : Operand} (ho : o.op = .call { callee := .builtin .append, args := #[s, x], argTypes := #[t, t2] })
    (h2 : notInt P t2 = true) {r : AV} {H' : List Box} (h : aappend P t H (A s) (A x) = some (r, H')) : Does P ρ o base w H β r H' := by
  have hs := hA s
  have hx := hA x
  have key : ∀ v w', (Builtin.append_ #[t, t2] o.type #[ρ s, ρ x]).run P w = .ok v w' → (execOp ρ o).run P w = .ok (.value v) w' := fun v w' hv => by
    simp [execOp, ho, resolve, invoke, builtin, hv]
  unfold aappend at h
  split at h
  · cases h
  · rename_i e he
    obtain ⟨hu, d, hd⟩ := elemTy_spec he
    split at h
    · cases h
    · rename_i gs hgs
      split at h
      · rename_i hz
        obtain ⟨hz, hb0⟩ := hz
        obtain ⟨hlen, vs, hrows, hfc⟩ := src_run hI hx hgs
        obtain ⟨hvl, hvr⟩ := hrows.flat
        have hfl := flat_length hrows.2.2.1
        have hvl' : vs.length = gs.length * P.cellsOf e := hrows.1
        split at h
        · rename_i hAs
          rw [hAs] at hs
          split at h
          · rename_i hbd
            injection h with h
            injection h with e1 e2
            subst e1; subst e2
            generalize hv : ρ s = v at hs
            cases hs with
            | emp a =>
              by_cases h0 : gs.length = 0
              · have hg0 : gs = [] := List.eq_nil_of_length_eq_zero h0
                subst hg0
                have hvs : vs = [] := List.eq_nil_of_length_eq_zero (by rw [hvl']; simp)
                subst hvs
                have hrun := run_append_none' (P := P) (w := w) (ty := o.type) (a := a) (n := 0) (cap := 0) hu hd h2 (Nat.le_refl 0) hlen (hfc w (fun _ _ _ => rfl))
                obtain ⟨g1, g2⟩ := newv hI 0 0 rfl
                refine ⟨_, w, _, .inl (key _ _ (by rw [hv]; exact hrun)), g1, g2, rep_sl (bx := ⟨[], 0, 0, true⟩) (by simp [flat]) rfl ⟨a, 0, rfl, Nat.le_refl _, fun _ => rfl, fun hh => absurd hh (by omega)⟩⟩
              · obtain ⟨C, cap', r1, ⟨rest, r2⟩, r3, r4⟩ := append_new (w := w) (ty := o.type) (a := a) (n := 0) (cap := 0) (olds := []) hI hu hd h2 hz hb0 hlen (by cases a <;> simp [Builtin.firstCells, loadCells, loadCellsFrom]) (by simp) (hfc _ (fun _ _ _ => rfl)) hvl' (by omega) (by simpa using hbd)
                obtain ⟨β', g1, g2, g3⟩ := grown_box (e := e) hI (flat gs) vs rest hvr hvl C (by simpa using r2)
                rw [Nat.zero_add] at r1 r3
                exact ⟨_, _, β', .inl (key _ _ (by rw [hv]; exact r1)), g1, g2, rep_sl (bx := ⟨flat gs, 0, 0, true⟩) (by simp) rfl (by rw [g3]; exact sl_new w C e _ cap' _ r3 r4)⟩
          · cases h
        · rename_i b g off n sz hAs
          rw [hAs] at hs
          split at h
          · rename_i bx hb
            split at h
            · rename_i hc
              obtain ⟨hg, rfl, hend, hgrow, hbd⟩ := hc
              injection h with h
              injection h with e1 e2
              subst e1; subst e2
              obtain ⟨bx', d1, d2, a, cap, hv, e4, e5, e6⟩ := live_sl (by simp [live, hb, hg]) hs
              rw [hb] at d1
              obtain rfl := Option.some.inj d1
              have hbl : b < H.length := (List.getElem?_eq_some_iff.1 hb).1
              by_cases hfit : n + gs.length ≤ cap
              · by_cases h0 : gs.length = 0
                · have hg0 : gs = [] := List.eq_nil_of_length_eq_zero h0
                  subst hg0
                  have hvs : vs = [] := List.eq_nil_of_length_eq_zero (by rw [hvl']; simp)
                  subst hvs
                  have hrun := run_append_none' (P := P) (w := w) (ty := o.type) (a := a) (n := n) (cap := cap) hu hd h2 e4 hlen (hfc w (fun _ _ _ => rfl))
                  cases hβ : β b with
                  | none =>
                    have hcs := hI.virt b bx hb hβ
                    have hro := hI.ro b bx hb
                    obtain ⟨g1, g2⟩ := replv (bx' := ⟨bx.cells.drop off ++ flat [], bx.ro - off, g + 1, true⟩) hI hb hβ (by simp [hcs, flat]) (by rw [hcs] at hro; simp at hro ⊢; omega) (by simp; omega)
                    refine ⟨_, w, β, .inl (key _ _ (by rw [hv]; exact hrun)), g1, g2, rep_sl (bx := ⟨bx.cells.drop off ++ flat [], bx.ro - off, g + 1, true⟩) (List.getElem?_set_self hbl) rfl ⟨a, cap, rfl, by simpa using e4, by simp, fun hh => ?_⟩⟩
                    obtain ⟨k, st, c, et, fr, f1, _⟩ := e6 hh
                    rw [hβ] at f1; cases f1
                  | some ks =>
                    obtain ⟨k, st⟩ := ks
                    obtain ⟨q1, q2⟩ := hI.real b bx k st hb hβ
                    have hro := hI.ro b bx hb
                    obtain ⟨g1, g2⟩ := repl (w' := w) (bx' := ⟨bx.cells.drop off ++ flat [], bx.ro - off, g + 1, true⟩) (k' := k) (s' := st + off) hI hb (Wor.refl w) (fun _ _ => False) (fun _ _ hh => hh.elim) (fun _ _ _ _ => rfl) ⟨q1, q2⟩
                      (by simp [flat]; omega) (.inr ⟨st, hβ, by simp; omega, by omega, fun _ => hgrow, .inl hgrow⟩) (by simp; omega) (by simp; omega) (fun hh => by omega) (fun j c hj => by
                        simp only [flat, List.flatten_nil, List.append_nil, List.getElem?_drop] at hj
                        obtain ⟨y, y1, y2, y3⟩ := hI.cells b bx k st hb hβ _ c hj
                        exact ⟨y, by rw [Nat.add_assoc]; exact y1, y2, y3⟩)
                    refine ⟨_, w, _, .inl (key _ _ (by rw [hv]; exact hrun)), g1, g2, rep_sl (bx := ⟨bx.cells.drop off ++ flat [], bx.ro - off, g + 1, true⟩) (List.getElem?_set_self hbl) rfl ⟨a, cap, rfl, by simpa using e4, by simp, fun hh => ?_⟩⟩
                    obtain ⟨k', st', c, et, fr, f1, f2, f3, f4⟩ := e6 hh
                    rw [hβ] at f1
                    injection f1 with f1
                    injection f1 with f5 f6
                    subst f5; subst f6
                    exact ⟨k, st + off, c, et, fr, by rw [upd_same], by simpa using f2, f3, by omega⟩
                · obtain ⟨k, st, c, et, fr, f1, f2, f3, f4⟩ := e6 (by omega)
                  subst f2
                  obtain ⟨q1, q2⟩ := hI.real b bx k st hb f1
                  have hro := hI.ro b bx hb
                  have hcapm : (n + gs.length) * P.cellsOf e ≤ cap * P.cellsOf e := Nat.mul_le_mul_right _ hfit
                  rw [Nat.add_mul] at hcapm
                  have hex : ∀ j, j < vs.length → (w.cell? ⟨k, st + off + n * P.cellsOf e + j, none⟩).isSome = true := fun j hj => by
                    unfold World.cell?
                    dsimp only
                    rw [f3]
                    simp
                    omega
                  have hfree : ∀ j, j < vs.length → w.frozen? ⟨k, st + off + n * P.cellsOf e + j, none⟩ = false := fun j hj => hI.free _ _ ⟨b, bx, st, hb, f1, by omega, .inl hgrow⟩ (Option.isSome_iff_exists.1 (hex j hj))
                  have hst := run_storeCells' (P := P) vs w k (st + off + n * P.cellsOf e) 0 hrows.2.1 (by simpa using hex) (by simpa using hfree)
                  have hrun := run_append_fits' (P := P) (w := w) (ty := o.type) (k := k) (s := st + off) (n := n) (cap := cap) hu hd h2 hlen (hfc w (fun _ _ _ => rfl)) hfit hst
                  simp only [Nat.add_zero] at hrun
                  have hW := Wor.stor vs w k (st + off + n * P.cellsOf e)
                  obtain ⟨g1, g2⟩ := repl (w' := stor w k (st + off + n * P.cellsOf e) vs) (bx' := ⟨bx.cells.drop off ++ flat gs, bx.ro - off, g + 1, true⟩) (k' := k) (s' := st + off) hI hb hW
                    (fun k' x => k' = k ∧ st + off + n * P.cellsOf e ≤ x ∧ x < st + off + n * P.cellsOf e + vs.length) (fun k' x ⟨ee, a1, a2⟩ => by subst ee; exact ⟨st, f1, by omega, .inl hgrow⟩)
                    (fun k' x hk hn => by rw [stor_cell vs w k _ k' x hex, if_neg (by simpa [and_assoc] using hn)])
                    ⟨q1, Nat.lt_of_lt_of_le q2 hW.size⟩ (by simp; omega) (.inr ⟨st, f1, by simp; omega, by omega, fun _ => hgrow, .inl hgrow⟩) (by simp; omega) (by simp; omega) (fun hh => by omega) (fun j c hj => by
                      rw [stor_cell vs w k _ k _ hex]
                      dsimp only at hj
                      have hdl : (bx.cells.drop off).length = n * P.cellsOf e := by simp; omega
                      by_cases hjn : j < n * P.cellsOf e
                      · rw [List.getElem?_append_left (by omega), List.getElem?_drop] at hj
                        rw [if_neg (by omega)]
                        obtain ⟨y, y1, y2, y3⟩ := hI.cells b bx k st hb f1 _ c hj
                        exact ⟨y, by rw [Nat.add_assoc]; exact y1, y2, y3⟩
                      · rw [List.getElem?_append_right (by omega), hdl] at hj
                        obtain ⟨y, y1, y2, y3⟩ := hvr _ c hj
                        have hjl := (List.getElem?_eq_some_iff.1 y1).1
                        rw [if_pos (by omega)]
                        refine ⟨y, ?_, y2, y3⟩
                        rw [← y1]
                        congr 1
                        omega)
                  obtain ⟨c', f5, f6⟩ := hW.shape k c et fr f3
                  refine ⟨_, _, _, .inl (key _ _ (by rw [hv]; exact hrun)), g1, g2, rep_sl (bx := ⟨bx.cells.drop off ++ flat gs, bx.ro - off, g + 1, true⟩) (List.getElem?_set_self hbl) rfl ⟨_, cap, rfl, hfit, by simp, fun hh => ?_⟩⟩
                  exact ⟨k, st + off, c', et, fr, by rw [upd_same], rfl, f5, by omega⟩
              · have holds : asrc (P.cellsOf e) H (.sl b g off n (P.cellsOf e) false) = some (chunk (P.cellsOf e) n (bx.cells.drop off)) := by simp only [asrc, hb]; rw [if_pos ⟨hg, by simp, by omega⟩]
                obtain ⟨_, os, hor, hofc⟩ := src_run (P := P) hI hs holds
                obtain ⟨hol, hov⟩ := hor.flat
                have hol' := hor.1
                rw [chunk_length] at hol' hofc
                rw [hv] at hofc
                obtain ⟨C, cap', r1, ⟨rest, r2⟩, r3, r4⟩ := append_new (w := w) (ty := o.type) (a := a) (n := n) (cap := cap) (olds := os) hI hu hd h2 hz hb0 hlen (hofc _ (fun _ _ _ => rfl)) hol' (hfc _ (fun _ _ _ => rfl)) hvl' (by omega) hbd
                have hW : Wor w (w.drew.alloc (.cells C e)) := (Wor.drawn w _).trans (Wor.alloc w.drew _)
                have hsize : (w.drew.alloc (.cells C e)).heap.size = w.heap.size + 1 := by
                  show (w.heap.push (Obj.cells C e)).size = _
                  simp
                have hdl : (bx.cells.drop off).length = n * P.cellsOf e := by simp; omega
                have hro := hI.ro b bx hb
                obtain ⟨g1, g2⟩ := repl (w' := w.drew.alloc (.cells C e)) (bx' := ⟨bx.cells.drop off ++ flat gs, bx.ro - off, g + 1, true⟩) (k' := w.heap.size) (s' := 0) hI hb hW (fun _ _ => False) (fun _ _ hh => hh.elim)
                  (fun k x hk _ => alloc_cell w.drew _ k x hk) ⟨hI.bse.le, by omega⟩ (by simp; omega) (.inl (Nat.le_refl _)) (by simp; omega) (by simp; omega) (fun _ x => alloc_new_frozen w.drew C e x) (fun j c hj => by
                    dsimp only at hj
                    have hcell := alloc_new w.drew C e (0, 0) (0 + j)
                    rw [Nat.zero_add] at hcell ⊢
                    have hcell' : (w.drew.alloc (.cells C e)).cell? ⟨w.heap.size, j, none⟩ = (os ++ vs ++ rest)[j]? := by rw [← r2, Array.getElem?_toList]; exact hcell
                    rw [hcell']
                    by_cases hjn : j < n * P.cellsOf e
                    · rw [List.getElem?_append_left (by omega)] at hj
                      obtain ⟨k1, s1, c1, et1, fr1, f1, f2, f3, f4⟩ := e6 (by
                        rcases Nat.eq_zero_or_pos cap with hc0 | hc0
                        · have : n = 0 := by omega
                          subst this; simp at hjn
                        · exact hc0)
                      have hq : (VL.flat (chunk (P.cellsOf e) n (bx.cells.drop off)))[j]? = some c := by
                        have : VL.flat (chunk (P.cellsOf e) n (bx.cells.drop off)) = bx.cells.drop off := by rw [flat_chunk, List.take_of_length_le (by omega)]
                        rw [this]; exact hj
                      obtain ⟨y, y1, y2, y3⟩ := hov j c hq
                      refine ⟨y, ?_, y2, y3⟩
                      rw [List.append_assoc, List.getElem?_append_left (by omega)]
                      exact y1
                    · rw [List.getElem?_append_right (by omega), hdl] at hj
                      obtain ⟨y, y1, y2, y3⟩ := hvr _ c hj
                      have hjl := (List.getElem?_eq_some_iff.1 y1).1
                      refine ⟨y, ?_, y2, y3⟩
                      rw [List.append_assoc, List.getElem?_append_right (by omega), List.getElem?_append_left (by omega), hol']
                      exact y1)
                refine ⟨_, _, _, .inl (key _ _ (by rw [hv]; exact r1)), g1, g2, rep_sl (bx := ⟨bx.cells.drop off ++ flat gs, bx.ro - off, g + 1, true⟩) (List.getElem?_set_self hbl) rfl (by rw [upd_same]; exact sl_new w C e _ cap' _ r3 r4)⟩
            · cases h
          · cases h
        · rename_i b g off n sz hAs
          rw [hAs] at hs
          split at h
          · rename_i bx hb
            split at h
            · rename_i hc
              obtain ⟨hg, rfl, hend, hpos, hbd⟩ := hc
              injection h with h
              injection h with e1 e2
              subst e1; subst e2
              obtain ⟨bx', d1, d2, a, cap, hv, e4, e5, e6⟩ := live_sl (by simp [live, hb, hg]) hs
              rw [hb] at d1
              obtain rfl := Option.some.inj d1
              have hcap := e5 rfl
              have holds : asrc (P.cellsOf e) H (.sl b g off n (P.cellsOf e) true) = some (chunk (P.cellsOf e) n (bx.cells.drop off)) := by simp only [asrc, hb]; rw [if_pos ⟨hg, by simp, by omega⟩]
              obtain ⟨_, os, hor, hofc⟩ := src_run (P := P) hI hs holds
              obtain ⟨hol, hov⟩ := hor.flat
              have hol' := hor.1
              rw [chunk_length] at hol' hofc
              rw [hv] at hofc
              obtain ⟨C, cap', r1, ⟨rest, r2⟩, r3, r4⟩ := append_new (w := w) (ty := o.type) (a := a) (n := n) (cap := cap) (olds := os) hI hu hd h2 hz hb0 hlen (hofc _ (fun _ _ _ => rfl)) hol' (hfc _ (fun _ _ _ => rfl)) hvl' (by omega) hbd
              have hfc' : VL.flat (chunk (P.cellsOf e) n (bx.cells.drop off)) = (bx.cells.drop off).take (n * P.cellsOf e) := flat_chunk _ _ _
              rw [hfc'] at hol hov
              obtain ⟨β', g1, g2, g3⟩ := grown_box (e := e) hI ((bx.cells.drop off).take (n * P.cellsOf e) ++ flat gs) (os ++ vs) rest (fun j c hj => by
                by_cases hjn : j < n * P.cellsOf e
                · rw [List.getElem?_append_left (by omega)] at hj
                  obtain ⟨y, y1, y2, y3⟩ := hov j c hj
                  exact ⟨y, by rw [List.getElem?_append_left (by omega)]; exact y1, y2, y3⟩
                · rw [List.getElem?_append_right (by omega), ← hol, hol'] at hj
                  obtain ⟨y, y1, y2, y3⟩ := hvr _ c hj
                  exact ⟨y, by rw [List.getElem?_append_right (by omega), hol']; exact y1, y2, y3⟩) (by simp only [List.length_append]; omega) C r2
              exact ⟨_, _, β', .inl (key _ _ (by rw [hv]; exact r1)), g1, g2, rep_sl (bx := ⟨(bx.cells.drop off).take (n * P.cellsOf e) ++ flat gs, 0, 0, true⟩) (by simp) rfl (by rw [g3]; exact sl_new w C e _ cap' _ r3 r4)⟩
            · cases h
          · cases h
        · cases h
      · cases h

end ops
end Go.Proofs.YtnlmdeeadldgmaaGreatDoor.VL

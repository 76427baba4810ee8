/- The value logic, part 3: more operations: new variables, literals, fields, indexes, slices. -/
import Derived.Test.YtnlmdeeadldgmaaGreatDoorZVLOps
set_option linter.unusedVariables false
set_option linter.unusedSimpArgs false
namespace Go.Proofs.YtnlmdeeadldgmaaGreatDoor.VL
open Go Go.RowKit

section ops
variable {P : Program} {ρ : Operand → Value} {A : Operand → AV} {o : Oper} {base : Nat} {w : World} {H : List Box} {β : Pl}

theorem alloc_run {P : Program} (w : World) (c : Array Value) (e : TypeId) : (newRow e c).run P w = .ok ⟨w.heap.size, 0, none⟩ (w.alloc (.cells c e)) := by
  simp [newRow, newObj, Sem.run, World.alloc_eq]

/-- A cell of a zero value; a slice that is nil counts as empty. -/
def zcell : Value → AV
  | .slice none 0 0 => .emp
  | .agg _ => .dead
  | .tuple _ => .dead
  | x => .v x
theorem rep_zcell (x : Value) : Rep w H β (zcell x) x := by
  unfold zcell
  split <;> first | exact .emp _ | exact .dead _ | exact .v _
def zeroCs (P : Program) (t : TypeId) : Option (List AV) := ((P.info? t).bind (·.zero)).bind fun z => if z.cells.toList.all (·.oneCell') then some (z.cells.toList.map zcell) else none
theorem zero_run {t : TypeId} {cs : List AV} (h : zeroCs P t = some cs) (w : World) : ∃ z, (zeroValue t).run P w = .ok z w ∧ cs = z.cells.toList.map zcell ∧ ∀ (i : Nat) (y : Value), z.cells[i]? = some y → y.oneCell' = true := by
  unfold zeroCs at h
  obtain ⟨z, h1, h2⟩ := Option.bind_eq_some_iff.1 h
  obtain ⟨i, h3, h4⟩ := Option.bind_eq_some_iff.1 h1
  split at h2
  · rename_i hall
    injection h2 with h2
    exact ⟨z, by simp [zeroValue, typeInfo, program, Sem.run, h3, h4], h2.symm, fun i y hy => List.all_eq_true.1 hall y (by
      rw [← Array.getElem?_toList] at hy
      exact List.mem_of_getElem? hy)⟩
  · cases h2

def newBox (H : List Box) (cs : List AV) : AV × List Box := (.ptr H.length 0 0, H ++ [⟨cs, 0, 0, false⟩])

theorem does_new (hI : Inv base w H β) (cs : List AV) (vs : Array Value) (e : TypeId) (hlen : vs.size = cs.length) (h1 : ∀ (i : Nat) (y : Value), vs[i]? = some y → y.oneCell' = true) (hr : ∀ (i : Nat) (d : AV) (y : Value), cs[i]? = some d → vs[i]? = some y → Rep w H β d y) (g : Bool) :
    ∃ β', Inv base (w.alloc (.cells vs e)) (H ++ [⟨cs, 0, 0, g⟩]) β' ∧ Stp base w H β (w.alloc (.cells vs e)) (H ++ [⟨cs, 0, 0, g⟩]) β' ∧ β' H.length = some (w.heap.size, 0) := by
  have := newb hI vs e ⟨cs, 0, 0, g⟩ (Nat.zero_le _) (fun j c hj => by
    have hj' := (List.getElem?_eq_some_iff.1 hj).1
    exact ⟨vs[j]'(by simp at hj'; omega), Array.getElem?_eq_getElem _, h1 j _ (Array.getElem?_eq_getElem _), hr j c _ hj (Array.getElem?_eq_getElem _)⟩)
  exact ⟨_, this.1, this.2, upd_same _ _ _⟩

theorem does_alloc (hI : Inv base w H β) {t : TypeId} (ho : o.op = .alloc t) {cs : List AV} (h : zeroCs P t = some cs) : Does P ρ o base w H β (newBox H cs).1 (newBox H cs).2 := by
  obtain ⟨z, h1, rfl, h0⟩ := zero_run h w
  obtain ⟨β', g1, g2, g3⟩ := does_new hI (z.cells.toList.map zcell) z.cells t (by simp) h0 (fun i d y hd hy => by
    simp only [List.getElem?_map, Array.getElem?_toList, hy, Option.map_some, Option.some.injEq] at hd
    subst hd
    exact rep_zcell y) false
  refine ⟨.pointer (some ⟨w.heap.size, 0, none⟩), _, β', .inl ?_, g1, g2, ?_⟩
  · simp [execOp, ho, Instr.alloc, h1, newVar, alloc_run]
  · exact .ptr _ _ _ _ ⟨z.cells.toList.map zcell, 0, 0, false⟩ (by simp [newBox]) (Nat.le_refl _) ⟨_, rfl⟩ fun _ => ⟨_, _, g3, rfl⟩

/-- A struct whose first part may hold its own address (strings.Builder). -/
def selfTy (P : Program) (t : TypeId) : Bool :=
  match P.underlying t with
  | some (.struct fs) => match fs[0]? with
    | some f => (match P.underlying f.type with
      | some (.pointer t') => t' == t
      | _ => false) && (P.cellsOf t == 2)
    | none => false
  | _ => false
def selfBox (H : List Box) (t : TypeId) (cs : List AV) : AV × List Box := (.ptr H.length 0 0, H ++ [⟨[.bself H.length 0 t, .v (.slice none 0 0)], 0, 0, false⟩])
def selfOk : List AV → Bool
  | [.v (.pointer none), .emp] => true
  | _ => false
theorem zcell_emp {x : Value} (h : zcell x = .emp) : x = .slice none 0 0 := by
  unfold zcell at h
  split at h <;> first | rfl | cases h
theorem does_allocS (hI : Inv base w H β) {t : TypeId} (ho : o.op = .alloc t) {cs : List AV} (h : zeroCs P t = some cs) (hok : selfOk cs = true) : Does P ρ o base w H β (selfBox H t cs).1 (selfBox H t cs).2 := by
  obtain ⟨z, h1, rfl, h0⟩ := zero_run h w
  have hy : z.cells.toList.map zcell = [.v (.pointer none), .emp] := by
    unfold selfOk at hok
    split at hok
    · rename_i hy; exact hy
    · cases hok
  have hsz : z.cells.size = 2 := by have := congrArg List.length hy; simpa using this
  obtain ⟨y, hz1⟩ : ∃ y, z.cells[1]? = some y := ⟨z.cells[1]'(by omega), Array.getElem?_eq_getElem _⟩
  have hy1 : y = .slice none 0 0 := by
    have := congrArg (fun l => l[1]?) hy
    simp only [List.getElem?_map, Array.getElem?_toList, hz1, Option.map_some] at this
    exact zcell_emp (by simpa using this)
  subst hy1
  obtain ⟨β', g1, g2, g3⟩ := does_new hI [.v (.pointer none), .v (.slice none 0 0)] z.cells t (by simp [hsz]) h0 (fun i d y hd hyy => by
    rcases i with _ | _ | i
    · simp at hd
      subst hd
      have := congrArg (fun l => l[0]?) hy
      simp only [List.getElem?_map, Array.getElem?_toList, hyy, Option.map_some] at this
      have h2 := rep_zcell (w := w) (H := H) (β := β) y
      rw [show zcell y = .v (.pointer none) by simpa using this] at h2
      exact h2
    · simp at hd
      subst hd
      rw [hz1] at hyy
      injection hyy with hyy
      subst hyy
      exact .v _
    · simp at hd) false
  have hb : (H ++ [(⟨[.v (.pointer none), .v (.slice none 0 0)], 0, 0, false⟩ : Box)])[H.length]? = some ⟨[.v (.pointer none), .v (.slice none 0 0)], 0, 0, false⟩ := by simp
  have hcells := g1.cells H.length _ _ _ hb g3
  have := repl (bx' := ⟨[.bself H.length 0 t, .v (.slice none 0 0)], 0, 0, false⟩) (k' := w.heap.size) (s' := 0) g1 hb (Wor.refl _) (fun _ _ => False) (fun _ _ h => h.elim) (fun _ _ _ _ => rfl)
    ⟨g1.real _ _ _ _ hb g3 |>.1, g1.real _ _ _ _ hb g3 |>.2⟩ (Nat.zero_le _) (.inr ⟨0, g3, Nat.le_refl _, Nat.le_refl _, fun h => h, .inr (Nat.le_refl _)⟩) (Nat.le_refl _) (fun _ => g3) (fun h => absurd (g1.real _ _ _ _ hb g3).2 (by omega)) (fun j c hj => by
      rcases j with _ | _ | j
      · obtain ⟨x, e1, e2, e3⟩ := hcells 0 _ rfl
        simp at hj
        subst hj
        refine ⟨x, e1, e2, ?_⟩
        cases e3
        exact .bself _ _ _ _ _ hb (Nat.le_refl _) ⟨_, rfl⟩ fun _ => ⟨_, _, _, g3, .inl rfl, Array.getElem?_push_size, hsz⟩
      · simp at hj
        subst hj
        exact hcells 1 _ rfl
      · simp at hj)
  obtain ⟨k1, k2⟩ := this
  have hset : (H ++ [(⟨[.v (.pointer none), .v (.slice none 0 0)], 0, 0, false⟩ : Box)]).set H.length ⟨[.bself H.length 0 t, .v (.slice none 0 0)], 0, 0, false⟩ = H ++ [⟨[.bself H.length 0 t, .v (.slice none 0 0)], 0, 0, false⟩] := by
    rw [List.set_append_right _ _ (Nat.le_refl _), Nat.sub_self]; rfl
  rw [hset] at k1 k2
  refine ⟨.pointer (some ⟨w.heap.size, 0, none⟩), _, _, .inl ?_, k1, g2.trans k2, ?_⟩
  · simp [execOp, ho, Instr.alloc, h1, newVar, alloc_run]
  · exact .ptr _ _ _ _ ⟨[.bself H.length 0 t, .v (.slice none 0 0)], 0, 0, false⟩ (by simp [selfBox]) (Nat.le_refl _) ⟨_, rfl⟩ fun _ => ⟨w.heap.size, 0, upd_same _ _ _, rfl⟩

theorem does_box (hI : Inv base w H β) (hA : ∀ x, Rep w H β (A x) (ρ x)) {t : TypeId} {x : Operand} (ho : o.op = .box t x) {cs : List AV} (h : (A x).cells = some cs) (hone : cs.all AV.one = true) : Does P ρ o base w H β (newBox H cs).1 (newBox H cs).2 := by
  obtain ⟨e1, e2⟩ := (hA x).cellsOf h
  obtain ⟨β', g1, g2, g3⟩ := does_new hI cs (ρ x).cells t e1 (fun i y hy => by
    have hi := (Array.getElem?_eq_some_iff.1 hy).1
    have hi' : i < cs.length := by omega
    exact (e2 i (cs[i]'hi') y (List.getElem?_eq_getElem hi') hy).one (List.all_eq_true.1 hone _ (List.getElem_mem hi'))) e2 false
  refine ⟨.pointer (some ⟨w.heap.size, 0, none⟩), _, β', .inl ?_, g1, g2, ?_⟩
  · simp [execOp, ho, Instr.box, newVar, alloc_run]
  · exact .ptr _ _ _ _ ⟨cs, 0, 0, false⟩ (by simp [newBox]) (Nat.le_refl _) ⟨_, rfl⟩ fun _ => ⟨_, _, g3, rfl⟩

/-! ### Literals -/
def afill (place : Nat → Option (Nat × Nat)) (cells : List AV) : List (Nat × AV) → Option (List AV)
  | [] => some cells
  | (i, v) :: rest =>
    match place i, v.cells with
    | some (off, size), some cs => if cs.length ≠ size ∨ off + cs.length > cells.length then none else afill place (splice cells off cs) rest
    | _, _ => none

theorem fold_set (vs : List Value) : ∀ (cs : Array Value) (off k : Nat), ((vs.zipIdx k).foldl (fun cs (c, j) => cs.setIfInBounds (off + j) c) cs).size = cs.size ∧
    ∀ i, off + k + vs.length ≤ cs.size → ((vs.zipIdx k).foldl (fun cs (c, j) => cs.setIfInBounds (off + j) c) cs)[i]? = if off + k ≤ i ∧ i < off + k + vs.length then vs[i - (off + k)]? else cs[i]? := by
  induction vs with
  | nil => intro cs off k; exact ⟨rfl, fun i _ => by rw [if_neg (by simp <;> omega)]; rfl⟩
  | cons v r ih =>
    intro cs off k
    simp only [List.zipIdx_cons, List.foldl_cons]
    obtain ⟨h1, h2⟩ := ih (cs.setIfInBounds (off + k) v) off (k + 1)
    refine ⟨by rw [h1]; simp, fun i hi => ?_⟩
    simp only [List.length_cons] at hi
    rw [h2 i (by simp; omega)]
    by_cases hh : off + (k + 1) ≤ i ∧ i < off + (k + 1) + r.length
    · rw [if_pos hh, if_pos (by simp <;> omega)]
      have : i - (off + k) = (i - (off + (k + 1))) + 1 := by omega
      rw [this, List.getElem?_cons_succ]
    · rw [if_neg hh]
      by_cases hk : i = off + k
      · subst hk
        rw [if_pos (by simp <;> omega), Array.getElem?_setIfInBounds_self]
        simp; omega
      · rw [Array.getElem?_setIfInBounds_ne (by omega), if_neg (by simp <;> omega)]

theorem fill_rep (place : Nat → Option (Nat × Nat)) : ∀ (ps : List (Nat × Value)) (as : List (Nat × AV)) (vs : Array Value) (cs : List AV) (out : List AV),
    vs.size = cs.length → (∀ (i : Nat) (d : AV) (y : Value), cs[i]? = some d → vs[i]? = some y → Rep w H β d y) →
    ps.length = as.length → (∀ (i : Nat) (p : Nat × Value) (q : Nat × AV), ps[i]? = some p → as[i]? = some q → p.1 = q.1 ∧ Rep w H β q.2 p.2) →
    afill place cs as = some out → ∃ vs', Instr.fill place vs ps = some vs' ∧ vs'.size = out.length ∧ ∀ (i : Nat) (d : AV) (y : Value), out[i]? = some d → vs'[i]? = some y → Rep w H β d y := by
  intro ps
  induction ps with
  | nil =>
    intro as vs cs out hs hr hl _ h
    obtain rfl : as = [] := List.eq_nil_of_length_eq_zero hl.symm
    simp only [afill, Option.some.injEq] at h
    subst h
    exact ⟨vs, rfl, hs, hr⟩
  | cons p ps ih =>
    intro as vs cs out hs hr hl hp h
    cases as with
    | nil => simp at hl
    | cons q as =>
      obtain ⟨i, v⟩ := p
      obtain ⟨i', c⟩ := q
      obtain ⟨e, hc⟩ := hp 0 (i, v) (i', c) rfl rfl
      dsimp only at e hc
      subst e
      simp only [afill] at h
      split at h
      · rename_i off size ds hpl hds
        split at h
        · cases h
        · rename_i hcond
          obtain ⟨g1, g2⟩ := hc.cellsOf hds
          have hcond' : ds.length = size ∧ off + ds.length ≤ cs.length := by
            rw [not_or] at hcond
            exact ⟨Classical.not_not.1 hcond.1, Nat.le_of_not_lt hcond.2⟩
          have hfold := fold_set v.cells.toList vs off 0
          obtain ⟨vs', r1, r2, r3⟩ := ih as (v.cells.zipIdx.foldl (fun cs (c, j) => cs.setIfInBounds (off + j) c) vs) (splice cs off ds) out (by
              rw [← Array.foldl_toList, Array.toList_zipIdx, hfold.1, splice_length, hs]) (fun j d y hd hy => by
              rw [← Array.foldl_toList, Array.toList_zipIdx, hfold.2 j (by simp; omega)] at hy
              rw [splice_get ds _ _ _ hcond'.2] at hd
              simp only [Array.length_toList, Nat.add_zero, g1] at hy
              split at hd
              · rename_i hh
                rw [if_pos hh] at hy
                exact g2 _ d y hd (by simpa using hy)
              · rename_i hh
                rw [if_neg hh] at hy
                exact hr j d y hd hy) (by simpa using hl) (fun j p q hp' hq => hp (j + 1) p q (by simpa using hp') (by simpa using hq)) h
          refine ⟨vs', ?_, r2, r3⟩
          rw [Instr.fill, hpl]
          simp only
          rw [if_neg (by simp; omega)]
          exact r1
      · cases h

def parts (A : Operand → AV) (ps : Array (Nat × Operand)) : List (Nat × AV) := ps.toList.map fun p => (p.1, A p.2)

def fieldPlaces (P : Program) (fs : Array Field) (i : Nat) : Option (Nat × Nat) := (fs[i]?).map fun f => (f.offset, P.cellsOf f.type)
def fieldsKnown (P : Program) (fs : Array Field) : Bool := fs.toList.all fun f => (P.underlying f.type).isSome

theorem run_places (fs : List Field) (h : fs.all (fun f => (P.underlying f.type).isSome) = true) (w : World) :
    (fs.mapM fun f => do pure (f.offset, ← sizeOf f.type) : Sem (List (Nat × Nat))).run P w = .ok (fs.map fun f => (f.offset, P.cellsOf f.type)) w := by
  induction fs with
  | nil => rfl
  | cons f r ih =>
    simp only [List.all_cons, Bool.and_eq_true] at h
    obtain ⟨d, hd⟩ := Option.isSome_iff_exists.1 h.1
    rw [List.mapM_cons]
    simp only [Sem.run_bind, run_sizeOf' hd, Result.andThen_ok, Sem.run_pure, ih h.2, List.map_cons]

def abuild (P : Program) (A : Operand → AV) (t : TypeId) (ps : Array (Nat × Operand)) : Option AV :=
  match zeroCs P t, P.underlying t with
  | some z, some (.struct fs) => if fieldsKnown P fs then (afill (fieldPlaces P fs) z (parts A ps)).map .agg else none
  | some z, some (.array _ e) => if (P.underlying e).isSome then (afill (fun i => some (i * P.cellsOf e, P.cellsOf e)) z (parts A ps)).map .agg else none
  | _, _ => none

theorem parts_rep (hA : ∀ x, Rep w H β (A x) (ρ x)) (ps : Array (Nat × Operand)) : (ps.map fun (i, x) => (i, ρ x)).toList.length = (parts A ps).length ∧
    ∀ (i : Nat) (p : Nat × Value) (q : Nat × AV), (ps.map fun (i, x) => (i, ρ x)).toList[i]? = some p → (parts A ps)[i]? = some q → p.1 = q.1 ∧ Rep w H β q.2 p.2 := by
  refine ⟨by simp [parts], fun i p q hp hq => ?_⟩
  simp only [Array.toList_map, List.getElem?_map, parts] at hp hq
  cases h : ps.toList[i]? with
  | none => rw [h] at hp; cases hp
  | some x =>
    rw [h] at hp hq
    simp only [Option.map_some, Option.some.injEq] at hp hq
    subst hp; subst hq
    exact ⟨rfl, hA _⟩

theorem does_build (hI : Inv base w H β) (hA : ∀ x, Rep w H β (A x) (ρ x)) {t : TypeId} {ps : Array (Nat × Operand)} (ho : o.op = .build t ps) {r : AV} (h : abuild P A t ps = some r) : Does P ρ o base w H β r H := by
  unfold abuild at h
  split at h
  · rename_i z fs hz hu
    split at h
    · rename_i hk
      obtain ⟨out, h1, rfl⟩ := Option.map_eq_some_iff.1 h
      obtain ⟨zv, h2, rfl, _⟩ := zero_run hz w
      obtain ⟨p1, p2⟩ := parts_rep hA ps
      obtain ⟨vs', r1, r2, r3⟩ := fill_rep (w := w) (H := H) (β := β) (fieldPlaces P fs) _ (parts A ps) zv.cells _ out (by simp) (fun i d y hd hy => by
        simp only [List.getElem?_map, Array.getElem?_toList, hy, Option.map_some, Option.some.injEq] at hd
        subst hd
        exact rep_zcell y) p1 p2 h1
      have hpl : (fs.mapM fun f => do pure (f.offset, ← sizeOf f.type) : Sem (Array (Nat × Nat))).run P w = .ok (fs.map fun f => (f.offset, P.cellsOf f.type)) w := by
        have := run_places (P := P) fs.toList hk w
        rw [Array.mapM_eq_mapM_toList]
        simp only [Sem.run_map, this, Result.andThen_ok, List.map_toArray]
        congr 1
        apply Array.ext'
        simp
      refine .same hI (v := .agg vs') ?_ (.agg _ _ r2.symm r3)
      have hpf : (fun i => (fs.map fun f => (f.offset, P.cellsOf f.type))[i]?) = fieldPlaces P fs := by
        funext i
        simp [fieldPlaces]
      simp only [execOp, ho, Instr.build, Sem.run_bind, h2, Result.andThen_ok, run_underlying hu, hpl]
      rw [hpf, r1]
      rfl
    · cases h
  · rename_i z n e hz hu
    split at h
    · rename_i hk
      obtain ⟨out, h1, rfl⟩ := Option.map_eq_some_iff.1 h
      obtain ⟨zv, h2, rfl, _⟩ := zero_run hz w
      obtain ⟨p1, p2⟩ := parts_rep hA ps
      obtain ⟨d, hd⟩ := Option.isSome_iff_exists.1 hk
      obtain ⟨vs', r1, r2, r3⟩ := fill_rep (w := w) (H := H) (β := β) (fun i => some (i * P.cellsOf e, P.cellsOf e)) _ (parts A ps) zv.cells _ out (by simp) (fun i d y hd hy => by
        simp only [List.getElem?_map, Array.getElem?_toList, hy, Option.map_some, Option.some.injEq] at hd
        subst hd
        exact rep_zcell y) p1 p2 h1
      refine .same hI (v := .agg vs') ?_ (.agg _ _ r2.symm r3)
      simp only [execOp, ho, Instr.build, Sem.run_bind, h2, Result.andThen_ok, run_underlying hu, run_sizeOf' hd]
      rw [r1]
      rfl
    · cases h
  · cases h

/-- Rows of cells, so many each. -/
def chunk (sz : Nat) : Nat → List AV → List (List AV)
  | 0, _ => []
  | n + 1, cs => cs.take sz :: chunk sz n (cs.drop sz)
theorem chunk_length (sz n : Nat) (cs : List AV) : (chunk sz n cs).length = n := by
  induction n generalizing cs with
  | zero => rfl
  | succ n ih => simp [chunk, ih]
theorem chunk_get (sz : Nat) : ∀ (n : Nat) (cs : List AV) (i : Nat) (g : List AV), (chunk sz n cs)[i]? = some g → i < n ∧ g = (cs.drop (i * sz)).take sz := by
  intro n
  induction n with
  | zero => intro cs i g h; simp [chunk] at h
  | succ n ih =>
    intro cs i g h
    cases i with
    | zero => simp [chunk] at h; exact ⟨by omega, by simp [h]⟩
    | succ i =>
      simp only [chunk, List.getElem?_cons_succ] at h
      obtain ⟨h1, h2⟩ := ih _ _ _ h
      refine ⟨by omega, ?_⟩
      rw [h2, List.drop_drop]
      congr 2
      rw [Nat.add_mul]; omega

/-- A new row that is only read. -/
theorem new_lst (hI : Inv base w H β) (sz n cap : Nat) (gs : List (List AV)) (vs : Array Value) (e : TypeId) (fr : Nat × Nat) (hn : gs.length = n) (hcap : n ≤ cap)
    (hg : ∀ (i : Nat) (g : List AV), gs[i]? = some g → g.length = sz)
    (hr : ∀ (i j : Nat) (g : List AV) (c : AV), gs[i]? = some g → g[j]? = some c → ∃ y, vs[i * sz + j]? = some y ∧ y.oneCell' = true ∧ Rep w H β c y) :
    Inv base (w.alloc (.cells vs e fr)) H β ∧ Stp base w H β (w.alloc (.cells vs e fr)) H β ∧ Rep (w.alloc (.cells vs e fr)) H β (.lst sz gs) (.slice (some ⟨w.heap.size, 0, none⟩) n cap) := by
  obtain ⟨h1, h2⟩ := still hI (Wor.alloc w (.cells vs e fr)) (fun k x hk => alloc_cell w _ k x hk)
  refine ⟨h1, h2, ?_⟩
  subst hn
  refine .lst sz gs _ 0 cap (fun i j => (vs[i * sz + j]?).getD undef) hcap hg (fun i j g c hi hj => ?_) (fun i j g c hi hj => ?_)
  · obtain ⟨y, e1, e3, _⟩ := hr i j g c hi hj
    refine ⟨by rw [alloc_new, Nat.zero_add, e1]; rfl, by rw [e1]; exact e3, ?_⟩
    rintro ⟨i', bx, s, a1, a2, _⟩
    have := (hI.real i' bx _ s a1 a2).2
    omega
  · obtain ⟨y, e1, _, e2⟩ := hr i j g c hi hj
    rw [e1]
    exact e2.stp h2

def abuildSlice (P : Program) (A : Operand → AV) (t : TypeId) (len : Nat) (ps : Array (Nat × Operand)) : Option AV :=
  match P.underlying t with
  | some (.slice e) =>
    if len = 0 then (if ps.size = 0 ∧ (P.underlying e).isSome = true then some .emp else none) else
    if (zeroCs P e).isSome = true ∧ (P.underlying e).isSome = true ∧ len * P.cellsOf e ≤ 16777216 then
      (afill (fun i => some (i * P.cellsOf e, P.cellsOf e)) (List.replicate (len * P.cellsOf e) .dead) (parts A ps)).bind fun cs => if cs.all AV.one = true then some (.lst (P.cellsOf e) (chunk (P.cellsOf e) len cs)) else none
    else none
  | _ => none

theorem afill_length (place : Nat → Option (Nat × Nat)) : ∀ (as : List (Nat × AV)) (cs out : List AV), afill place cs as = some out → out.length = cs.length := by
  intro as
  induction as with
  | nil => intro cs out h; simp [afill] at h; rw [h]
  | cons q as ih =>
    intro cs out h
    obtain ⟨i, c⟩ := q
    simp only [afill] at h
    split at h
    · split at h
      · cases h
      · rw [ih _ _ h, splice_length]
    · cases h

theorem does_buildSlice (hI : Inv base w H β) (hA : ∀ x, Rep w H β (A x) (ρ x)) {t : TypeId} {len : Nat} {ps : Array (Nat × Operand)} (ho : o.op = .buildSlice t len ps) {r : AV} (h : abuildSlice P A t len ps = some r) : ∃ (v : Value) (w' : World) (β' : Pl), (execOp ρ o).run P w = .ok (.value v) w' ∧ Inv base w' H β' ∧ Stp base w H β w' H β' ∧ Rep w' H β' r v ∧ ∀ sz gs, r = .lst sz gs → Rep w' H β' (.lit base sz gs) v := by
  unfold abuildSlice at h
  split at h
  · rename_i e hu
    split at h
    · rename_i hl
      subst hl
      split at h
      · rename_i hps
        obtain ⟨hps, hk⟩ := hps
        injection h with h
        subst h
        obtain ⟨d, hd⟩ := Option.isSome_iff_exists.1 hk
        have hps' : ps = #[] := Array.eq_empty_of_size_eq_zero hps
        subst hps'
        obtain ⟨h1, h2, _⟩ := new_lst hI 1 0 0 [] #[] e (0, 0) rfl (Nat.le_refl _) (by simp) (by simp)
        refine ⟨.slice (some ⟨w.heap.size, 0, none⟩) 0 0, _, β, ?_, h1, h2, .emp _, fun sz gs h => by cases h⟩
        simp only [execOp, ho, Instr.buildSlice, Sem.run_bind, run_underlying hu, Result.andThen_ok, run_sizeOf' hd, Nat.zero_mul]
        simp [Instr.fill, alloc_run, Array.range]
      · cases h
    · rename_i hl
      split at h
      · rename_i hk
        obtain ⟨hz, hk, hle⟩ := hk
        obtain ⟨z, hz⟩ := Option.isSome_iff_exists.1 hz
        obtain ⟨d, hd⟩ := Option.isSome_iff_exists.1 hk
        obtain ⟨out, h1, h⟩ := Option.bind_eq_some_iff.1 h
        have hone : out.all AV.one = true := Classical.byContradiction fun hh => by rw [if_neg hh] at h; cases h
        rw [if_pos hone] at h
        injection h with h
        subst h
        obtain ⟨zv, h2, _, _⟩ := zero_run hz w
        obtain ⟨p1, p2⟩ := parts_rep hA ps
        have hlen := afill_length _ _ _ _ h1
        simp only [List.length_replicate] at hlen
        obtain ⟨zs, hzs⟩ : ∃ zs : Array Value, zs = if len * P.cellsOf e = 0 then #[] else zv.cells := ⟨_, rfl⟩
        obtain ⟨vs', r1, r2, r3⟩ := fill_rep (w := w) (H := H) (β := β) (fun i => some (i * P.cellsOf e, P.cellsOf e)) _ (parts A ps) ((Array.range (len * P.cellsOf e)).map (zs[· % zs.size]!)) (List.replicate (len * P.cellsOf e) .dead) out (by simp) (fun i d y hd hy => by
          simp [List.getElem?_replicate] at hd
          rw [← hd.2]
          exact .dead _) p1 p2 h1
        obtain ⟨g1, g2, g3⟩ := new_lst hI (P.cellsOf e) len len (chunk (P.cellsOf e) len out) vs' e (0, 0) (chunk_length _ _ _) (Nat.le_refl _) (fun i g hg => by
          obtain ⟨hi, rfl⟩ := chunk_get _ _ _ _ _ hg
          simp only [List.length_take, List.length_drop, hlen]
          have : (i + 1) * P.cellsOf e ≤ len * P.cellsOf e := Nat.mul_le_mul_right _ hi
          rw [Nat.add_mul] at this
          omega) (fun i j g c hg hj => by
          obtain ⟨hi, rfl⟩ := chunk_get _ _ _ _ _ hg
          have hjl := (List.getElem?_eq_some_iff.1 hj).1
          simp only [List.length_take] at hjl
          rw [List.getElem?_take_of_lt (by omega), List.getElem?_drop] at hj
          have hjo := (List.getElem?_eq_some_iff.1 hj).1
          have hrr := r3 _ c _ hj (Array.getElem?_eq_getElem (show i * P.cellsOf e + j < vs'.size by omega))
          exact ⟨vs'[i * P.cellsOf e + j]'(by omega), Array.getElem?_eq_getElem _, hrr.one (List.all_eq_true.1 hone _ (List.mem_of_getElem? hj)), hrr⟩)
        refine ⟨_, _, β, ?_, g1, g2, g3, fun sz gs h => ?_⟩
        rotate_left
        · injection h with h1 h2
          subst h1; subst h2
          refine .lit _ _ _ _ g3 ⟨w.heap.size, 0, _, _, rfl, hI.bse.le, by simp, fun y => ?_⟩
          rintro ⟨i', bx, s, a1, a2, _⟩
          have := (hI.real i' bx _ s a1 a2).2
          omega
        have hle' : ¬ (len * P.cellsOf e > 2 ^ 24) := by omega
        simp only [execOp, ho, Instr.buildSlice, Sem.run_bind, run_underlying hu, Result.andThen_ok, run_sizeOf' hd, if_neg hle', Sem.run_ite]
        by_cases h0 : len * P.cellsOf e = 0
        · rw [if_pos h0] at hzs
          subst hzs
          simp only [if_pos h0, Sem.run_bind, Sem.run_pure, Result.andThen_ok]
          rw [r1]
          simp [alloc_run]
        · rw [if_neg h0] at hzs
          subst hzs
          simp only [if_neg h0, Sem.run_bind, Sem.run_pure, Result.andThen_ok, h2]
          rw [r1]
          simp [alloc_run]
      · cases h
  · cases h

/-! ### Fields and indexes -/
/-- Is a box as it is said to be? -/
def live (H : List Box) (b g : Nat) : Bool := match H[b]? with | some bx => decide (bx.gen = g) | none => false

theorem live_ptr {b g off : Nat} {v : Value} (hl : live H b g = true) (h : Rep w H β (.ptr b g off) v) : ∃ bx k s, H[b]? = some bx ∧ bx.gen = g ∧ β b = some (k, s) ∧ v = .pointer (some ⟨k, s + off, none⟩) := by
  cases h with
  | ptr _ _ _ _ bx hb hg hx hp =>
    simp only [live, hb, decide_eq_true_eq] at hl
    obtain ⟨k, s, h1, h2⟩ := hp hl
    exact ⟨bx, k, s, hb, hl, h1, h2⟩
theorem live_sl {b g off n sz : Nat} {full : Bool} {v : Value} (hl : live H b g = true) (h : Rep w H β (.sl b g off n sz full) v) : ∃ bx, H[b]? = some bx ∧ bx.gen = g ∧ SlAt w (β b) off n sz full v := by
  cases h with
  | sl _ _ _ _ _ _ _ bx hb hg hx hp =>
    simp only [live, hb, decide_eq_true_eq] at hl
    exact ⟨bx, hb, hl, hp hl⟩
theorem rep_ptr {b g off k s : Nat} {bx : Box} (hb : H[b]? = some bx) (hg : bx.gen = g) (hl : β b = some (k, s)) : Rep w H β (.ptr b g off) (.pointer (some ⟨k, s + off, none⟩)) :=
  .ptr _ _ _ _ bx hb (by omega) ⟨_, rfl⟩ fun _ => ⟨k, s, hl, rfl⟩
theorem rep_sl {b g off n sz : Nat} {full : Bool} {v : Value} {bx : Box} (hb : H[b]? = some bx) (hg : bx.gen = g) (h : SlAt w (β b) off n sz full v) : Rep w H β (.sl b g off n sz full) v :=
  .sl _ _ _ _ _ _ _ bx hb (by omega) (by obtain ⟨a, cap, h, _⟩ := h; exact ⟨_, _, _, h⟩) fun _ => h

def fieldOf (P : Program) (s : TypeId) (f : Nat) : Option Field :=
  match P.underlying s with
  | some (.struct fs) => fs[f]?
  | _ => none
def afieldAddr (P : Program) (s : TypeId) (f : Nat) (H : List Box) (x : AV) : Option AV :=
  match fieldOf P s f with
  | none => none
  | some d =>
    if P.cellsOf d.type ≠ 0 ∧ (P.underlying d.type).isSome = true then
      match x with
      | .ptr b g o => if live H b g then some (.ptr b g (o + d.offset)) else none
      | .elt g o => some (.elt g (o + d.offset))
      | _ => none
    else none

theorem run_fieldAt {s : TypeId} {f : Nat} {d : Field} (hf : fieldOf P s f = some d) (h0 : P.cellsOf d.type ≠ 0) (hk : (P.underlying d.type).isSome = true) (k x : Nat) :
    (Instr.fieldAt s (.pointer (some ⟨k, x, none⟩)) f).run P w = .ok (.pointer (some ⟨k, x + d.offset, none⟩)) w := by
  obtain ⟨dd, hd⟩ := Option.isSome_iff_exists.1 hk
  unfold fieldOf at hf
  split at hf
  · rename_i fs hu
    simp [Instr.fieldAt, run_underlying hu, hf, Instr.sureAddr, fieldPlace, run_sizeOf' hd, h0, add_plain]
  · cases hf

theorem does_fieldAddr (hI : Inv base w H β) (hA : ∀ x, Rep w H β (A x) (ρ x)) {s : TypeId} {x : Operand} {f : Nat} (ho : o.op = .fieldAddr s x f) {r : AV} (h : afieldAddr P s f H (A x) = some r) : Does P ρ o base w H β r H := by
  have hx := hA x
  unfold afieldAddr at h
  split at h
  · cases h
  · rename_i d hf
    split at h
    · rename_i hc
      split at h
      · rename_i b g off hAx
        rw [hAx] at hx
        split at h
        · rename_i hl
          injection h with h
          subst h
          obtain ⟨bx, k, s', h1, h2, h3, h4⟩ := live_ptr hl hx
          refine .same hI ?_ (rep_ptr (k := k) (s := s') h1 h2 h3)
          simp only [execOp, ho, h4, Sem.run_bind, run_fieldAt hf hc.1 hc.2, Result.andThen_ok, Nat.add_assoc]; rfl
        · cases h
      · rename_i g off hAx
        rw [hAx] at hx
        injection h with h
        subst h
        generalize hv : ρ x = v at hx
        cases hx with
        | elt _ _ k s' y hc' hr =>
          refine .same hI ?_ (.elt g _ k s' y hc' hr)
          simp only [execOp, ho, hv, Sem.run_bind, run_fieldAt hf hc.1 hc.2, Result.andThen_ok, Nat.add_assoc]; rfl
      · cases h
    · cases h

/-- A part of an aggregate. -/
theorem run_part {t : TypeId} {cs : List AV} {vs : Array Value} {off : Nat} {r : AV} (hr : aload P t cs off = some r) (hlen : cs.length = vs.size)
    (h : ∀ (i : Nat) (c : AV) (x : Value), cs[i]? = some c → vs[i]? = some x → Rep w H β c x) : ∃ v, (part t vs off).run P w = .ok v w ∧ Rep w H β r v := by
  unfold aload at hr
  split at hr
  · cases hr
  · rename_i d hd
    split at hr
    · rename_i hag
      split at hr
      · rename_i hl
        injection hr with hr
        subst hr
        refine ⟨.agg (vs.extract off (off + P.cellsOf t)), by simp [part, run_isAgg' hd, hag, run_sizeOf' hd], .agg _ _ (by simp; omega) fun i c x h1 h2 => ?_⟩
        have hi : i < P.cellsOf t := by
          have := (List.getElem?_eq_some_iff.1 h1).1
          simp at this
          omega
        rw [List.getElem?_take_of_lt hi, List.getElem?_drop] at h1
        rw [Array.getElem?_extract_of_lt (by omega)] at h2
        exact h _ _ _ h1 (by rw [Array.getElem?_eq_getElem (by omega)]; exact h2)
      · cases hr
    · rename_i hag
      have hi := (List.getElem?_eq_some_iff.1 hr).1
      have hv : vs[off]? = some (vs[off]'(by omega)) := Array.getElem?_eq_getElem _
      refine ⟨_, ?_, h off r _ hr hv⟩
      simp only [Bool.not_eq_true] at hag
      simp [part, run_isAgg' hd, hag, hv]

def afield (P : Program) (s : TypeId) (f : Nat) (x : AV) : Option AV :=
  match fieldOf P s f, x with
  | some d, .agg cs => aload P d.type cs d.offset
  | _, _ => none
theorem does_field (hI : Inv base w H β) (hA : ∀ x, Rep w H β (A x) (ρ x)) {s : TypeId} {x : Operand} {f : Nat} (ho : o.op = .field s x f) {r : AV} (h : afield P s f (A x) = some r) : Does P ρ o base w H β r H := by
  have hx := hA x
  unfold afield at h
  split at h
  · rename_i d cs hf hAx
    rw [hAx] at hx
    generalize hv : ρ x = v at hx
    cases hx with
    | agg _ vs hl hr =>
      obtain ⟨v, h1, h2⟩ := run_part h hl hr
      refine .same hI ?_ h2
      unfold fieldOf at hf
      split at hf
      · rename_i fs hu
        simp [execOp, ho, hv, Instr.field, run_underlying hu, hf, asAgg, h1]
      · cases hf
  · cases h

def elemTy (P : Program) (t : TypeId) : Option TypeId := match P.underlying t with | some (.slice e) => if (P.underlying e).isSome then some e else none | _ => none
def arrTy (P : Program) (t : TypeId) : Option (Nat × TypeId) := match P.underlying t with | some (.array n e) => if (P.underlying e).isSome then some (n, e) else none | _ => none
theorem elemTy_spec {t e : TypeId} (h : elemTy P t = some e) : P.underlying t = some (.slice e) ∧ ∃ d, P.underlying e = some d := by
  unfold elemTy at h
  split at h
  · rename_i e' hu
    split at h
    · rename_i hk
      injection h with h
      subst h
      exact ⟨hu, Option.isSome_iff_exists.1 hk⟩
    · cases h
  · cases h
theorem arrTy_spec {t e : TypeId} {n : Nat} (h : arrTy P t = some (n, e)) : P.underlying t = some (.array n e) ∧ ∃ d, P.underlying e = some d := by
  unfold arrTy at h
  split at h
  · rename_i n' e' hu
    split at h
    · rename_i hk
      injection h with h
      injection h with h1 h2
      subst h1; subst h2
      exact ⟨hu, Option.isSome_iff_exists.1 hk⟩
    · cases h
  · cases h

def aindexAddr (P : Program) (t : TypeId) (H : List Box) (x ix : AV) : Option AV :=
  match ix with
  | .v (.int _ i) =>
    match x with
    | .lst sz gs => match elemTy P t with
      | some e => if sz = P.cellsOf e ∧ 0 ≤ i then (gs[i.toNat]?).map (.elt · 0) else none
      | none => none
    | .sl b g off n sz _ => match elemTy P t with
      | some e => if sz = P.cellsOf e ∧ live H b g = true ∧ 0 ≤ i ∧ i.toNat < n then some (.ptr b g (off + i.toNat * sz)) else none
      | none => none
    | .ptr b g off => match arrTy P t with
      | some (n, e) => if live H b g = true ∧ 0 ≤ i ∧ i.toNat < n then some (.ptr b g (off + i.toNat * P.cellsOf e)) else none
      | none => none
    | .elt g off => match arrTy P t with
      | some (n, e) => if 0 ≤ i ∧ i.toNat < n then some (.elt g (off + i.toNat * P.cellsOf e)) else none
      | none => none
    | _ => none
  | _ => none

theorem run_indexAt_sl {t e : TypeId} (he : elemTy P t = some e) {k s n cap : Nat} {ik : IntKind} {i : Int} (h0 : 0 ≤ i) (h1 : i.toNat < n) :
    (Instr.indexAt t (.slice (some ⟨k, s, none⟩) n cap) (.int ik i)).run P w = .ok (.pointer (some ⟨k, s + i.toNat * P.cellsOf e, none⟩)) w := by
  obtain ⟨hu, d, hd⟩ := elemTy_spec he
  have : 0 ≤ i ∧ i < n := ⟨h0, by omega⟩
  simp [Instr.indexAt, asIntOf, run_underlying hu, this, run_sizeOf' hd, add_plain]
theorem run_indexAt_arr {t e : TypeId} {n : Nat} (he : arrTy P t = some (n, e)) {k s : Nat} {ik : IntKind} {i : Int} (h0 : 0 ≤ i) (h1 : i.toNat < n) :
    (Instr.indexAt t (.pointer (some ⟨k, s, none⟩)) (.int ik i)).run P w = .ok (.pointer (some ⟨k, s + i.toNat * P.cellsOf e, none⟩)) w := by
  obtain ⟨hu, d, hd⟩ := arrTy_spec he
  have : 0 ≤ i ∧ i < n := ⟨h0, by omega⟩
  simp [Instr.indexAt, asIntOf, run_underlying hu, Instr.sureAddr, this, run_sizeOf' hd, add_plain]

theorem does_indexAddr (hI : Inv base w H β) (hA : ∀ x, Rep w H β (A x) (ρ x)) {t : TypeId} {x ix : Operand} (ho : o.op = .indexAddr t x ix) {r : AV} (h : aindexAddr P t H (A x) (A ix) = some r) : Does P ρ o base w H β r H := by
  have hx := hA x
  have hix := hA ix
  unfold aindexAddr at h
  split at h
  · rename_i ik i hAi
    rw [hAi] at hix
    generalize hvi : ρ ix = vi at hix
    cases hix
    split at h
    · rename_i sz gs hAx
      rw [hAx] at hx
      split at h
      · rename_i e he
        split at h
        · rename_i hc
          obtain ⟨hsz, h0⟩ := hc
          obtain ⟨g, hg, rfl⟩ := Option.map_eq_some_iff.1 h
          have hlt := (List.getElem?_eq_some_iff.1 hg).1
          generalize hv : ρ x = v at hx
          cases hx with
          | lst0 => simp at hlt
          | lst _ _ k s cap y hn hgl hcc hr =>
            subst hsz
            refine .same hI (v := .pointer (some ⟨k, s + i.toNat * P.cellsOf e + 0, none⟩)) ?_ (.elt g 0 k (s + i.toNat * P.cellsOf e) (y i.toNat) (fun j c hj => ?_) (fun j c hj => hr i.toNat j g c hg hj))
            · simp only [execOp, ho, hv, hvi, Sem.run_bind, run_indexAt_sl he h0 hlt, Result.andThen_ok]; rfl
            · exact hcc i.toNat j g c hg hj
        · cases h
      · cases h
    · rename_i b g off n sz full hAx
      rw [hAx] at hx
      split at h
      · rename_i e he
        split at h
        · rename_i hc
          obtain ⟨hsz, hl, h0, h1⟩ := hc
          injection h with h
          subst h
          obtain ⟨bx, e1, e2, a, cap, e3, e4, e5, e6⟩ := live_sl hl hx
          obtain ⟨k, s, c, et, fr, f1, f2, f3, f4⟩ := e6 (by omega)
          subst f2; subst hsz
          refine .same hI ?_ (rep_ptr (k := k) (s := s) e1 e2 f1)
          simp only [execOp, ho, e3, hvi, Sem.run_bind, run_indexAt_sl he h0 h1, Result.andThen_ok, Nat.add_assoc]; rfl
        · cases h
      · cases h
    · rename_i b g off hAx
      rw [hAx] at hx
      split at h
      · rename_i n e he
        split at h
        · rename_i hc
          obtain ⟨hl, h0, h1⟩ := hc
          injection h with h
          subst h
          obtain ⟨bx, k, s, e1, e2, e3, e4⟩ := live_ptr hl hx
          refine .same hI ?_ (rep_ptr (k := k) (s := s) e1 e2 e3)
          simp only [execOp, ho, e4, hvi, Sem.run_bind, run_indexAt_arr he h0 h1, Result.andThen_ok, Nat.add_assoc]; rfl
        · cases h
      · cases h
    · rename_i g off hAx
      rw [hAx] at hx
      split at h
      · rename_i n e he
        split at h
        · rename_i hc
          obtain ⟨h0, h1⟩ := hc
          injection h with h
          subst h
          generalize hv : ρ x = v at hx
          cases hx with
          | elt _ _ k s y hcc hr =>
            refine .same hI ?_ (.elt g _ k s y hcc hr)
            simp only [execOp, ho, hv, hvi, Sem.run_bind, run_indexAt_arr he h0 h1, Result.andThen_ok, Nat.add_assoc]; rfl
        · cases h
      · cases h
    · cases h
  · cases h

def aindex (P : Program) (t : TypeId) (x ix : AV) : Option AV :=
  match ix with
  | .v (.int _ i) =>
    match x with
    | .v (.string s) => match P.underlying t with
      | some .string => if 0 ≤ i then (s.data.toList[i.toNat]?).map fun b => .v (.int .u8 b.toNat) else none
      | _ => none
    | .agg cs => match arrTy P t with
      | some (n, e) => if 0 ≤ i ∧ i.toNat < n then aload P e cs (i.toNat * P.cellsOf e) else none
      | none => none
    | _ => none
  | _ => none
theorem does_index (hI : Inv base w H β) (hA : ∀ x, Rep w H β (A x) (ρ x)) {t : TypeId} {x ix : Operand} (ho : o.op = .index t x ix) {r : AV} (h : aindex P t (A x) (A ix) = some r) : Does P ρ o base w H β r H := by
  have hx := hA x
  have hix := hA ix
  unfold aindex at h
  split at h
  · rename_i ik i hAi
    rw [hAi] at hix
    generalize hvi : ρ ix = vi at hix
    cases hix
    split at h
    · rename_i s hAx
      rw [hAx] at hx
      split at h
      · rename_i hu
        split at h
        · rename_i h0
          obtain ⟨b, hb, rfl⟩ := Option.map_eq_some_iff.1 h
          generalize hv : ρ x = v at hx
          cases hx
          refine .same hI (v := .int .u8 b.toNat) ?_ (.v _)
          have hs : s[i.toNat]? = some b := by
            rw [Array.getElem?_toList] at hb
            obtain ⟨h1, h2⟩ := Array.getElem?_eq_some_iff.1 hb
            rw [getElem?_pos s i.toNat h1]
            exact congrArg some h2
          simp [execOp, ho, hv, hvi, Instr.index, asIntOf, run_underlying hu, h0, hs]
        · cases h
      · cases h
    · rename_i cs hAx
      rw [hAx] at hx
      split at h
      · rename_i n e he
        split at h
        · rename_i hc
          obtain ⟨h0, h1⟩ := hc
          obtain ⟨hu, d, hd⟩ := arrTy_spec he
          generalize hv : ρ x = v at hx
          cases hx with
          | agg _ vs hl hr =>
            obtain ⟨v, g1, g2⟩ := run_part h hl hr
            refine .same hI ?_ g2
            have : 0 ≤ i ∧ i < n := ⟨h0, by omega⟩
            simp [execOp, ho, hv, hvi, Instr.index, asIntOf, run_underlying hu, this, run_sizeOf' hd, g1]
        · cases h
      · cases h
    · cases h
  · cases h

def aextract (x : AV) (i : Nat) : Option AV := match x with | .tup vs => vs[i]? | _ => none
theorem does_extract (hI : Inv base w H β) (hA : ∀ x, Rep w H β (A x) (ρ x)) {x : Operand} {i : Nat} (ho : o.op = .extract x i) {r : AV} (h : aextract (A x) i = some r) : Does P ρ o base w H β r H := by
  have hx := hA x
  unfold aextract at h
  split at h
  · rename_i vs hAx
    rw [hAx] at hx
    generalize hv : ρ x = v at hx
    cases hx with
    | tup _ xs hl hr =>
      have hi := (List.getElem?_eq_some_iff.1 h).1
      have hxi : xs[i]? = some (xs[i]'(by omega)) := Array.getElem?_eq_getElem _
      exact .same hI (by simp [execOp, ho, hv, Instr.extract, hxi]) (hr i r _ h hxi)
  · cases h

end ops
end Go.Proofs.YtnlmdeeadldgmaaGreatDoor.VL

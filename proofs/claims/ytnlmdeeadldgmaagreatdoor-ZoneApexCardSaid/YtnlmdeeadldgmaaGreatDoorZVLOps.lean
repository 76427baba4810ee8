/- The value logic, part 2: what each operation of the model does to abstract values. -/
import Derived.Test.YtnlmdeeadldgmaaGreatDoorZVLCore
import Derived.Laws.Cells
import Derived.Laws.Strings
import Derived.Laws.BytesString
import Derived.Laws.IdiomCopy
set_option linter.unusedVariables false
set_option linter.unusedSimpArgs false
namespace Go.Proofs.YtnlmdeeadldgmaaGreatDoor.VL
open Go Go.RowKit

/-! ### Cells of a value -/
def AV.one : AV → Bool
  | .v x => x.oneCell'
  | .lst .. | .sl .. | .ptr .. | .elt .. | .fn .. | .emp | .bs .. => true
  | _ => false
def AV.cells : AV → Option (List AV)
  | .agg cs => some cs
  | a => if a.one then some [a] else none

theorem oneCell_cells {x : Value} (h : x.oneCell' = true) : x.cells = #[x] := by cases x <;> simp_all [Value.oneCell', Value.cells]

theorem Rep.one {w : World} {H : List Box} {β : Pl} {c : AV} {x : Value} (h : Rep w H β c x) (h1 : c.one = true) : x.oneCell' = true := by
  cases h with
  | v x => exact h1
  | sl b g o n sz full x bx hb hg hx h => obtain ⟨a, m, cap, rfl⟩ := hx; rfl
  | ptr b g o x bx hb hg hx h => obtain ⟨a, rfl⟩ := hx; rfl
  | bs b g n e x bx hb hg hx h ht => obtain ⟨a, m, cap, rfl, _⟩ := hx; rfl
  | _ => first | rfl | simp [AV.one] at h1

/-- The cells of a represented value are what its abstract cells say. -/
theorem Rep.cellsOf {w : World} {H : List Box} {β : Pl} {c : AV} {x : Value} {cs : List AV} (h : Rep w H β c x) (hc : c.cells = some cs) :
    x.cells.size = cs.length ∧ ∀ (i : Nat) (d : AV) (y : Value), cs[i]? = some d → x.cells[i]? = some y → Rep w H β d y := by
  cases c with
  | agg cs' =>
    simp only [AV.cells, Option.some.injEq] at hc
    subst hc
    cases h with
    | agg cs vs hl h => exact ⟨hl.symm, h⟩
  | tup _ => simp [AV.cells, AV.one] at hc
  | dead => simp [AV.cells, AV.one] at hc
  | _ =>
    all_goals
      simp only [AV.cells] at hc
      split at hc
      · rename_i h1
        rw [oneCell_cells (h.one h1)]
        injection hc with hc
        subst hc
        refine ⟨rfl, fun i d y hd hy => ?_⟩
        rcases i with _ | i
        · simp at hd hy
          subst hd; subst hy
          exact h
        · simp at hd
      · cases hc

/-! ### Types -/
def isAg (P : Program) (t : TypeId) : Bool := match P.underlying t with | some (.struct _) | some (.array _ _) => true | _ => false
theorem info_of_underlying {P : Program} {t : TypeId} {d : TypeDesc} (h : P.underlying t = some d) : ∃ i, P.info? t = some i ∧ i.size = P.cellsOf t ∧ i.bytes = P.bytesOf t := by
  unfold Program.underlying at h
  cases hi : P.info? t with
  | none => rw [hi] at h; cases h
  | some i => exact ⟨i, rfl, by simp [Program.cellsOf, hi], by simp [Program.bytesOf, hi]⟩
theorem run_sizeOf' {P : Program} {t : TypeId} {d : TypeDesc} (h : P.underlying t = some d) (w : World) : (sizeOf t).run P w = .ok (P.cellsOf t) w := by
  obtain ⟨i, h1, h2, _⟩ := info_of_underlying h
  simp [sizeOf, typeInfo, program, Sem.run, h1, h2]
theorem run_isAgg' {P : Program} {t : TypeId} {d : TypeDesc} (h : P.underlying t = some d) (w : World) : (isAgg t).run P w = .ok (isAg P t) w := by
  simp only [isAgg, Sem.run_bind, run_underlying h, Result.andThen_ok, isAg, h]
  cases d <;> rfl

/-! ### Loads -/
theorem add_plain (k s j : Nat) : (⟨k, s, none⟩ : Addr).add j = ⟨k, s + j, none⟩ := by unfold Addr.add; split <;> simp_all

def aload (P : Program) (t : TypeId) (cs : List AV) (o : Nat) : Option AV :=
  match P.underlying t with
  | none => none
  | some _ =>
    if isAg P t then (if o + P.cellsOf t ≤ cs.length then some (.agg ((cs.drop o).take (P.cellsOf t))) else none) else cs[o]?

theorem run_load_cells {P : Program} {w : World} {H : List Box} {β : Pl} {t : TypeId} {cs : List AV} {o k s : Nat} {r : AV} (hr : aload P t cs o = some r)
    (hc : ∀ (j : Nat) (c : AV), cs[j]? = some c → ∃ x, w.cell? ⟨k, s + j, none⟩ = some x ∧ Rep w H β c x) :
    ∃ v, (loadVar t ⟨k, s + o, none⟩).run P w = .ok v w ∧ Rep w H β r v := by
  unfold aload at hr
  split at hr
  · cases hr
  · rename_i d hd
    split at hr
    · rename_i hag
      split at hr
      · rename_i hlen
        injection hr with hr
        subst hr
        have hx : ∀ j, j < P.cellsOf t → ∃ x, w.cell? ⟨k, s + o + j, none⟩ = some x := fun j hj => by
          obtain ⟨x, h1, _⟩ := hc (o + j) (cs[o + j]'(by omega)) (List.getElem?_eq_getElem (by omega))
          exact ⟨x, by rw [Nat.add_assoc]; exact h1⟩
        let f : Nat → Value := fun j => (w.cell? ⟨k, s + o + j, none⟩).getD undef
        have hf : ∀ j, j < P.cellsOf t → w.cell? ((⟨k, s + o, none⟩ : Addr).add j) = some (f j) := fun j hj => by
          obtain ⟨x, h1⟩ := hx j hj
          simp only [add_plain, f, h1, Option.getD_some]
        refine ⟨.agg ((List.range (P.cellsOf t)).map f).toArray, ?_, ?_⟩
        · simp only [loadVar, Sem.run_bind, run_isAgg' hd, Result.andThen_ok, hag, if_true, run_sizeOf' hd, run_loadCells w _ _ f hf, Sem.run_pure]
        · refine .agg _ _ (by simp <;> omega) fun i c x h1 h2 => ?_
          have hi : i < P.cellsOf t := by
            have := (List.getElem?_eq_some_iff.1 h1).1
            simp at this
            omega
          rw [List.getElem?_take_of_lt hi, List.getElem?_drop] at h1
          obtain ⟨y, g1, g2⟩ := hc _ _ h1
          simp [hi] at h2
          subst h2
          have : f i = y := by simp only [f, Nat.add_assoc, g1, Option.getD_some]
          rw [this]
          exact g2
      · cases hr
    · rename_i hag
      obtain ⟨x, h1, h2⟩ := hc o r hr
      refine ⟨x, ?_, h2⟩
      simp only [loadVar, Sem.run_bind, run_isAgg' hd, Result.andThen_ok, Bool.not_eq_true] at hag ⊢
      simp [hag, h1]

/-! ### What an operation does -/
def Does (P : Program) (ρ : Operand → Value) (o : Oper) (base : Nat) (w : World) (H : List Box) (β : Pl) (r : AV) (H' : List Box) : Prop :=
  ∃ v w' β', ((execOp ρ o).run P w = .ok (.value v) w' ∨ ((execOp ρ o).run P w = .ok .skip w' ∧ v = undef)) ∧ Inv base w' H' β' ∧ Stp base w H β w' H' β' ∧ Rep w' H' β' r v

section ops
variable {P : Program} {ρ : Operand → Value} {A : Operand → AV} {o : Oper} {base : Nat} {w : World} {H : List Box} {β : Pl}

theorem Does.same (hI : Inv base w H β) {r : AV} {v : Value} (h : (execOp ρ o).run P w = .ok (.value v) w) (hr : Rep w H β r v) : Does P ρ o base w H β r H :=
  ⟨v, w, β, .inl h, hI, Stp.refl _ _ _, hr⟩

theorem does_move (hI : Inv base w H β) (hA : ∀ x, Rep w H β (A x) (ρ x)) {x : Operand} (ho : o.op = .move x) : Does P ρ o base w H β (A x) H :=
  .same hI (by simp [execOp, ho]) (hA x)
theorem does_assign (hI : Inv base w H β) (hA : ∀ x, Rep w H β (A x) (ρ x)) {x : Operand} (ho : o.op = .assign x) : Does P ρ o base w H β (A x) H :=
  .same hI (by simp [execOp, ho]) (hA x)

def apick (t : Bool) (a b : AV) : AV :=
  match a, b with
  | .v (.bool p), .v (.bool q) => .v (.bool (if t then p else q))
  | a, b => if t then a else b
theorem apick_eq (t : Bool) (a b : AV) : apick t a b = if t then a else b := by
  unfold apick
  split
  · split <;> rfl
  · rfl
theorem does_pick (hI : Inv base w H β) (hA : ∀ x, Rep w H β (A x) (ρ x)) {c a b : Operand} (ho : o.op = .pick c a b) {t : Bool} (hc : A c = .v (.bool t)) : Does P ρ o base w H β (apick t (A a) (A b)) H := by
  have h := hA c
  rw [hc] at h
  generalize hv : ρ c = v at h
  cases h
  rw [apick_eq]
  cases t with
  | true => exact .same hI (by simp [execOp, ho, hv, asBool]) (hA a)
  | false => exact .same hI (by simp [execOp, ho, hv, asBool]) (hA b)

/-! ### Loads, stores -/
def aloadAt (P : Program) (t : TypeId) (H : List Box) : AV → Option AV
  | .ptr b g o => match H[b]? with
    | some bx => if bx.gen = g then aload P t bx.cells o else none
    | none => none
  | .elt g j => aload P t g j
  | _ => none

theorem does_load (hI : Inv base w H β) (hA : ∀ x, Rep w H β (A x) (ρ x)) {x : Operand} {t : TypeId} (ho : o.op = .load t x) {r : AV} (h : aloadAt P t H (A x) = some r) : Does P ρ o base w H β r H := by
  have hx := hA x
  unfold aloadAt at h
  split at h
  · rename_i b g off hAx
    rw [hAx] at hx
    split at h
    · rename_i bx hb
      split at h
      · rename_i hg
        generalize hv : ρ x = v at hx
        cases hx with
        | ptr _ _ _ _ bx' hb' hg' _ hp =>
          rw [hb] at hb'
          obtain rfl := Option.some.inj hb'
          obtain ⟨k, s, h1, rfl⟩ := hp hg
          obtain ⟨v, h2, h3⟩ := run_load_cells h (fun j c hj => by obtain ⟨x, e1, _, e2⟩ := hI.cells b bx k s hb h1 j c hj; exact ⟨x, e1, e2⟩)
          exact .same hI (by simp [execOp, ho, hv, Instr.loadAt, Instr.sureAddr, h2]) h3
      · cases h
    · cases h
  · rename_i g j hAx
    rw [hAx] at hx
    generalize hv : ρ x = v at hx
    cases hx with
    | elt _ _ k s y hc hr =>
      obtain ⟨v, h2, h3⟩ := run_load_cells h (fun j c hj => ⟨y j, (hc j c hj).1, hr j c hj⟩)
      exact .same hI (by simp [execOp, ho, hv, Instr.loadAt, Instr.sureAddr, h2]) h3
  · cases h

/-- Cells are laid over others. -/
def splice : List AV → Nat → List AV → List AV
  | l, _, [] => l
  | l, o, c :: r => splice (l.set o c) (o + 1) r
theorem splice_length (l : List AV) (o : Nat) (cs : List AV) : (splice l o cs).length = l.length := by
  induction cs generalizing l o with
  | nil => rfl
  | cons c r ih => simp [splice, ih]
theorem splice_get (cs : List AV) : ∀ (l : List AV) (o j : Nat), o + cs.length ≤ l.length → (splice l o cs)[j]? = if o ≤ j ∧ j < o + cs.length then cs[j - o]? else l[j]? := by
  induction cs with
  | nil => intro l o j _; simp [splice]; intro h1 h2; omega
  | cons c r ih =>
    intro l o j h
    simp only [List.length_cons] at h
    rw [splice, ih _ _ _ (by simp <;> omega)]
    by_cases h1 : o + 1 ≤ j ∧ j < o + 1 + r.length
    · rw [if_pos h1, if_pos (by simp <;> omega)]
      have : j - o = (j - (o + 1)) + 1 := by omega
      rw [this, List.getElem?_cons_succ]
    · rw [if_neg h1]
      by_cases h2 : j = o
      · subst h2
        rw [List.getElem?_set_self (by omega), if_pos (by simp)]
        simp
      · rw [List.getElem?_set_ne (Ne.symm h2), if_neg (by simp <;> omega)]

/-- Cells of the model are written, one behind another. -/
def stor (w : World) (k s : Nat) : List Value → World
  | [] => w
  | v :: r => stor (w.setCell ⟨k, s, none⟩ v) k (s + 1) r
theorem Wor.stor (vs : List Value) : ∀ (w : World) (k s : Nat), Wor w (stor w k s vs) := by
  induction vs with
  | nil => intro w k s; exact Wor.refl w
  | cons v r ih => intro w k s; exact (Wor.setCell w ⟨k, s, none⟩ v).trans (ih _ k (s + 1))
theorem setCell_same {w : World} {k s : Nat} {v : Value} (h : (w.cell? ⟨k, s, none⟩).isSome = true) : (w.setCell ⟨k, s, none⟩ v).cell? ⟨k, s, none⟩ = some v := by
  obtain ⟨u, hu⟩ := Option.isSome_iff_exists.1 h
  unfold World.cell? at hu ⊢
  simp only [World.setCell, Array.getElem?_modify] at hu ⊢
  split at hu
  · rename_i c e fr hc
    rw [hc]
    simp at hu ⊢
    have := (Array.getElem?_eq_some_iff.1 hu).1
    simp [this]
  · cases hu
theorem setCell_other {w : World} {k s k' x : Nat} {v : Value} (h : ¬ (k' = k ∧ x = s)) : (w.setCell ⟨k, s, none⟩ v).cell? ⟨k', x, none⟩ = w.cell? ⟨k', x, none⟩ := by
  by_cases hk : k' = k
  · subst hk
    have hx : s ≠ x := fun e => h ⟨rfl, e.symm⟩
    unfold World.cell?
    simp only [World.setCell, Array.getElem?_modify, if_pos]
    cases w.heap[k']? with
    | none => rfl
    | some o => cases o <;> simp [hx]
  · exact World.cell?_of_block (w := w) (Below.heap_setCell w _ v k' hk)
theorem stor_cell (vs : List Value) : ∀ (w : World) (k s k' x : Nat), (∀ j, j < vs.length → (w.cell? ⟨k, s + j, none⟩).isSome = true) →
    (stor w k s vs).cell? ⟨k', x, none⟩ = if k' = k ∧ s ≤ x ∧ x < s + vs.length then vs[x - s]? else w.cell? ⟨k', x, none⟩ := by
  induction vs with
  | nil => intro w k s k' x _; rw [if_neg (by simp <;> omega)]; rfl
  | cons v r ih =>
    intro w k s k' x h
    have h0 : (w.cell? ⟨k, s, none⟩).isSome = true := by simpa using h 0 (by simp)
    rw [stor, ih _ k (s + 1) k' x (fun j hj => by
      rw [setCell_other (by omega)]
      have := h (j + 1) (by simp <;> omega)
      rwa [show s + (j + 1) = s + 1 + j by omega] at this)]
    by_cases h1 : k' = k ∧ s + 1 ≤ x ∧ x < s + 1 + r.length
    · rw [if_pos h1, if_pos (by simp <;> omega)]
      have : x - s = (x - (s + 1)) + 1 := by omega
      rw [this, List.getElem?_cons_succ]
    · rw [if_neg h1]
      by_cases h2 : k' = k ∧ x = s
      · obtain ⟨rfl, rfl⟩ := h2
        rw [setCell_same h0, if_pos (by simp)]
        simp
      · rw [setCell_other h2, if_neg (by simp <;> omega)]
theorem stor_frozen {w : World} {k s : Nat} {v : Value} (k' x : Nat) : (w.setCell ⟨k, s, none⟩ v).frozen? ⟨k', x, none⟩ = w.frozen? ⟨k', x, none⟩ := by
  unfold World.frozen?
  simp only [World.setCell, Array.getElem?_modify]
  by_cases hk : k = k'
  · subst hk
    simp only [if_pos]
    cases w.heap[k]? with
    | none => rfl
    | some o => cases o <;> rfl
  · rw [if_neg hk]
theorem run_storeCells' (vs : List Value) : ∀ (w : World) (k s i : Nat), (∀ v ∈ vs, v.oneCell' = true) → (∀ j, j < vs.length → (w.cell? ⟨k, s + i + j, none⟩).isSome = true) → (∀ j, j < vs.length → w.frozen? ⟨k, s + i + j, none⟩ = false) →
    (storeCells ⟨k, s, none⟩ vs i).run P w = .ok () (stor w k (s + i) vs) := by
  induction vs with
  | nil => intro w k s i _ _ _; rfl
  | cons v r ih =>
    intro w k s i h1 h2 h3
    have h0 : (w.cell? ⟨k, s + i, none⟩).isSome = true := by simpa using h2 0 (by simp)
    have hf : w.frozen? ⟨k, s + i, none⟩ = false := by simpa using h3 0 (by simp)
    obtain ⟨u, hu⟩ := Option.isSome_iff_exists.1 h0
    have hv := h1 v (by simp)
    have hst : (store ((⟨k, s, none⟩ : Addr).add i) v).run P w = .ok () (w.setCell ⟨k, s + i, none⟩ v) := by
      rw [add_plain]
      cases v <;> first | (simp [Value.oneCell'] at hv; done) | simp [store, Sem.run, hu, hf]
    simp only [storeCells, Sem.run_bind, hst, Result.andThen_ok]
    rw [ih _ k s (i + 1) (fun u hu => h1 u (by simp [hu])) (fun j hj => by
        rw [setCell_other (by omega)]
        have := h2 (j + 1) (by simp <;> omega)
        rwa [show s + i + (j + 1) = s + (i + 1) + j by omega] at this)
      (fun j hj => by
        rw [stor_frozen]
        have := h3 (j + 1) (by simp <;> omega)
        rwa [show s + i + (j + 1) = s + (i + 1) + j by omega] at this)]
    rfl

def astoreAt (P : Program) (t : TypeId) (H : List Box) : AV → AV → Option (List Box)
  | .ptr b g o, x => match H[b]?, x.cells with
    | some bx, some cs =>
      if bx.gen = g ∧ bx.ro ≤ o ∧ cs.length = P.cellsOf t ∧ o + cs.length ≤ bx.cells.length ∧ cs.all AV.one = true ∧ (P.underlying t).isSome = true then
        some (H.set b { bx with cells := splice bx.cells o cs }) else none
    | _, _ => none
  | _, _ => none

/-- Cells of a box are written. -/
theorem write_box {k s o' : Nat} {b : Nat} {bx : Box} (hI : Inv base w H β) (hb : H[b]? = some bx) (hl : β b = some (k, s)) (cs : List AV) (vs : List Value) (hlen : vs.length = cs.length)
    (hr : ∀ (i : Nat) (d : AV) (y : Value), cs[i]? = some d → vs[i]? = some y → Rep w H β d y) (h1 : ∀ v ∈ vs, v.oneCell' = true) (hro : bx.ro ≤ o') (hfit : o' + cs.length ≤ bx.cells.length) :
    (storeCells ⟨k, s + o', none⟩ vs).run P w = .ok () (stor w k (s + o') vs) ∧ Inv base (stor w k (s + o') vs) (H.set b { bx with cells := splice bx.cells o' cs }) β ∧ Stp base w H β (stor w k (s + o') vs) (H.set b { bx with cells := splice bx.cells o' cs }) β := by
  have hcell : ∀ j, j < bx.cells.length → ∃ x, w.cell? ⟨k, s + j, none⟩ = some x := fun j hj => by
    obtain ⟨x, h, _, _⟩ := hI.cells b bx k s hb hl j _ (List.getElem?_eq_getElem hj)
    exact ⟨x, h⟩
  have hsome : ∀ j, j < vs.length → (w.cell? ⟨k, s + o' + j, none⟩).isSome = true := fun j hj => by
    obtain ⟨x, hx⟩ := hcell (o' + j) (by omega)
    rw [Nat.add_assoc, hx]; rfl
  have hfree : ∀ j, j < vs.length → w.frozen? ⟨k, s + o' + j, none⟩ = false := fun j hj => hI.free _ _ ⟨b, bx, s, hb, hl, by omega, .inr (by omega)⟩ (Option.isSome_iff_exists.1 (hsome j hj))
  have hrun := run_storeCells' (P := P) vs w k (s + o') 0 h1 (by simpa using hsome) (by simpa using hfree)
  refine ⟨by simpa using hrun, ?_⟩
  have hupd : upd β b (k, s) = β := by
    funext i
    by_cases hi : i = b
    · subst hi; rw [upd_same, hl]
    · rw [upd_ne β _ hi]
  obtain ⟨g1, g2⟩ := hI.real b bx k s hb hl
  have hfr : ∀ (vs : List Value) (w : World) (s k' x : Nat), (stor w k s vs).frozen? ⟨k', x, none⟩ = w.frozen? ⟨k', x, none⟩ := by
    intro vs
    induction vs with
    | nil => intros; rfl
    | cons v r ih => intro w s k' x; rw [stor, ih, stor_frozen]
  have := repl (w' := stor w k (s + o') vs) (bx' := { bx with cells := splice bx.cells o' cs }) (k' := k) (s' := s) hI hb (Wor.stor vs w k (s + o'))
    (fun k' x => k' = k ∧ s + o' ≤ x ∧ x < s + o' + vs.length)
    (fun k' x ⟨e, a1, a2⟩ => by subst e; exact ⟨s, hl, by omega, .inr (by omega)⟩)
    (fun k' x hk hn => by rw [stor_cell vs w k _ k' x hsome, if_neg (by simpa [and_assoc] using hn)])
    ⟨g1, Nat.lt_of_lt_of_le g2 (Wor.stor vs w k (s + o')).size⟩ (by simp only [splice_length]; exact hI.ro b bx hb)
    (.inr ⟨s, hl, Nat.le_refl _, Nat.le_refl _, fun h => h, .inr (by simp only [splice_length]; exact Nat.le_refl _)⟩) (Nat.le_refl _) (fun _ => hl) (fun h => by omega)
    (fun j c hj => by
      simp only [splice_get cs _ _ _ hfit] at hj
      rw [stor_cell vs w k _ k (s + j) hsome]
      split at hj
      · rename_i hh
        rw [if_pos (by omega)]
        have : s + j - (s + o') = j - o' := by omega
        rw [this]
        exact ⟨vs[j - o']'(by omega), List.getElem?_eq_getElem (by omega), h1 _ (List.getElem_mem _), hr (j - o') c _ hj (List.getElem?_eq_getElem (by omega))⟩
      · rename_i hh
        rw [if_neg (by omega)]
        exact hI.cells b bx k s hb hl j c hj)
  rwa [hupd] at this

theorem does_store (hI : Inv base w H β) (hA : ∀ x, Rep w H β (A x) (ρ x)) {x y : Operand} {t : TypeId} (ho : o.op = .store t x y) {H' : List Box} (h : astoreAt P t H (A x) (A y) = some H') : Does P ρ o base w H β .dead H' := by
  have hx := hA x
  have hy := hA y
  unfold astoreAt at h
  split at h
  · rename_i b g off z hAx
    rw [hAx] at hx
    split at h
    · rename_i bx cs hb hcs
      split at h
      · rename_i hh
        obtain ⟨hg, hro, hsz, hfit, hone, hu⟩ := hh
        injection h with h
        subst h
        generalize hv : ρ x = v at hx
        cases hx with
        | ptr _ _ _ _ bx' hb' hg' _ hp =>
          rw [hb] at hb'
          obtain rfl := Option.some.inj hb'
          obtain ⟨k, s, h1, rfl⟩ := hp hg
          obtain ⟨e1, e2⟩ := hy.cellsOf hcs
          obtain ⟨d, hd⟩ := Option.isSome_iff_exists.1 hu
          obtain ⟨r1, r2, r3⟩ := write_box (P := P) hI hb h1 cs (ρ y).cells.toList (by simpa using e1) (fun i d y hd hy => e2 i d y hd (by simpa using hy)) (fun v hv => by
            obtain ⟨i, hi, rfl⟩ := List.mem_iff_getElem.1 hv
            simp only [Array.length_toList] at hi
            have hi' : i < cs.length := by omega
            have := e2 i (cs[i]'hi') _ (List.getElem?_eq_getElem hi') (Array.getElem?_eq_getElem hi)
            exact this.one (List.all_eq_true.1 hone _ (List.getElem_mem hi'))) hro hfit
          refine ⟨undef, _, β, .inr ⟨?_, rfl⟩, r2, r3, .dead _⟩
          have hcs' : (ρ y).cells.size = P.cellsOf t := by omega
          simp [execOp, ho, hv, Instr.storeAt, Instr.sureAddr, storeVar, run_sizeOf' hd, hcs', r1]
      · cases h
    · cases h
  · cases h

end ops
end Go.Proofs.YtnlmdeeadldgmaaGreatDoor.VL

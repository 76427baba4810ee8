/- The value logic: the first place where something holds. -/
import Derived.Test.YtnlmdeeadldgmaaGreatDoorZG16
import Derived.MapKept
set_option linter.unusedVariables false
set_option linter.unusedSimpArgs false
namespace Go.Proofs.YtnlmdeeadldgmaaGreatDoor.VL
open Go Go.RowKit Go.Lib

/-- The first place where f holds. -/
def ixOf {α : Type} (f : α → Bool) : List α → Nat → Int
  | [], _ => -1
  | x :: l, i => if f x then (i : Int) else ixOf f l (i + 1)
theorem ixOf_any {α : Type} (f : α → Bool) : ∀ (l : List α) (i : Nat), decide (0 ≤ ixOf f l i) = l.any f
  | [], _ => by simp [ixOf]
  | x :: l, i => by
    rw [ixOf, List.any_cons]
    by_cases h : f x = true
    · rw [if_pos h, h]; simp
    · rw [if_neg h, ixOf_any f l (i + 1)]
      simp [h]
theorem ixOf_drop {α : Type} (f : α → Bool) {l : List α} {i : Nat} {x : α} (h : l[i]? = some x) : ixOf f (l.drop i) i = if f x then (i : Int) else ixOf f (l.drop (i + 1)) (i + 1) := by
  have hi := (List.getElem?_eq_some_iff.1 h).1
  rw [List.drop_eq_getElem_cons hi, ixOf, (List.getElem?_eq_some_iff.1 h).2]

theorem ltVV {n : Nat} (a b : Value) : Lt n (.tup [.v a, .v b]) := .tup _ fun i c hi => by
  rcases i with _ | _ | i <;> simp at hi <;> subst hi <;> exact .v _
/-- All new boxes are forgotten at the end of a round. -/
theorem Coe.cut0 {E : Ent} {l l' : List (Nat × AV)} {N : List Box} (h : Keeps l l') (hlt : ∀ p ∈ l', Lt E.H.length p.2) : Coe E ⟨l, E.H ++ N⟩ ⟨l', E.H⟩ := by
  have := Coe.cutN (E := E) (M := []) (N := N) h (by simpa using hlt) (by simp)
  simpa using this
theorem take_snoc {α : Type} {l : List α} {i : Nat} {x : α} (h : l[i]? = some x) : l.take (i + 1) = l.take i ++ [x] := by
  obtain ⟨hi, he⟩ := List.getElem?_eq_some_iff.1 h
  rw [List.take_succ_eq_append_getElem hi, he]


end Go.Proofs.YtnlmdeeadldgmaaGreatDoor.VL

/- The value logic: a map's literal of two numbers. -/
set_option linter.unusedVariables false
set_option linter.unusedSimpArgs false
namespace Go.Proofs.YtnlmdeeadldgmaaGreatDoor.VL
open Go Go.RowKit Go.Lib

theorem alloc_set (w : World) (o o' : Obj) : ({ w.alloc o with heap := (w.alloc o).heap.setIfInBounds w.heap.size o' } : World) = w.alloc o' := by
  unfold World.alloc
  simp only
  congr 1
  apply Array.ext
  · simp
  · intro i h1 h2
    simp only [Array.size_setIfInBounds, Array.size_push] at h1
    rw [Array.getElem_setIfInBounds (by simpa using h1), Array.getElem_push]
    split
    · rename_i he; subst he; simp
    · rw [Array.getElem_push]
      split
      · rfl
      · omega
theorem run_insert {P : Program} {t kt et : TypeId} {q : IntKind} (ht : P.underlying t = some (.map kt et)) (hq : P.underlying kt = some (.int q)) (w : World) (es : Array MapEntry) (clock : Nat) {k v : Value} (hf : Instr.findNow (.int q) k es.toList 0 = some none) :
    (Instr.mapUpdate t (.map (some w.heap.size)) k v).run P (w.alloc (.map es clock)) = .ok () (w.alloc (.map (es.push ⟨k, v, clock⟩) (clock + 1))) := by
  have hh : (w.alloc (.map es clock)).heap[w.heap.size]? = some (.map es clock) := by exact Array.getElem?_push_size
  have hg : (getObj w.heap.size).run P (w.alloc (.map es clock)) = .ok (.map es clock) (w.alloc (.map es clock)) := Go.MapKept.run_getObj_map hh
  have hs : ∀ o, (setObj w.heap.size o).run P (w.alloc (.map es clock)) = .ok () (w.alloc o) := fun o => by
    have : (setObj w.heap.size o).run P (w.alloc (.map es clock)) = .ok () { w.alloc (.map es clock) with heap := (w.alloc (.map es clock)).heap.setIfInBounds w.heap.size o } := Go.MapKept.run_setObj_map o hh
    rw [this, alloc_set]
  have hck : (Instr.checkKey false 10000 kt k).run P (w.alloc (.map es clock)) = .ok () (w.alloc (.map es clock)) := by
    show (Instr.checkKey false (9999 + 1) kt k).run P _ = _
    rw [Instr.checkKey]
    simp only [Sem.run_bind, run_underlying hq, Result.andThen_ok, Sem.run_pure]
  have hfk : (Instr.findKey kt k es.toList).run P (w.alloc (.map es clock)) = .ok none (w.alloc (.map es clock)) := by
    simp only [Instr.findKey, Sem.run_bind, run_underlying hq, Result.andThen_ok, hf, Sem.run_pure]
  simp only [Instr.mapUpdate, Sem.run_bind, run_underlying ht, Result.andThen_ok, hg, hck, hfk, hs]

section
variable {P : Program} {E : Ent} {ops : Array Oper} {Q : AExit → ASt → Prop}
/-- A literal of two entries. -/
theorem SOps.map2 {d : Tmp} {t t' ty ty1 ty2 : TypeId} {k1 v1 k2 v2 : Value} {p p1 p2 : String} {af af1 af2 : Array Edge} {rest : List Oper} {σ : ASt}
    (h : ∀ T : ASt → Prop, (∀ σ, SOps P E ops Q rest σ → T σ) → d < E.n ∧ match P.underlying t' with
      | some (.map kt _) => match P.underlying kt with
        | some (.int q) => Instr.findNow (.int q) k1 [] 0 = some none ∧ Instr.findNow (.int q) k2 [⟨k1, v1, 0⟩] 0 = some none ∧ T ⟨put σ.tmps (some d) (.mp #[⟨k1, v1, 0⟩, ⟨k2, v2, 1⟩]), σ.H⟩
        | _ => False
      | _ => False) : SOps P E ops Q ({ dst := some d, op := .makeMap t none, type := ty, pos := p, after := af, guard := none } ::
        { dst := none, op := .insert t' (.tmp d) (.const k1) (.const v1), type := ty1, pos := p1, after := af1, guard := none } ::
        { dst := none, op := .insert t' (.tmp d) (.const k2) (.const v2), type := ty2, pos := p2, after := af2, guard := none } :: rest) σ := fun a w hs => by
  obtain ⟨hd, h⟩ := h _ fun σ h => h
  obtain ⟨β, hs⟩ := hs
  split at h
  · rename_i kt et ht
    split at h
    · rename_i q hq
      obtain ⟨hf1, hf2, h⟩ := h
      have hev : ∀ v, (a.put (some d) v).eval (.tmp d) = v := fun v => by
        show (a.put (some d) v).tmps.getD d undef = _
        simp [Act.put, hs.size, hd]
      have hi := still hs.inv (Wor.alloc w (.map #[⟨k1, v1, 0⟩, ⟨k2, v2, 1⟩] 2)) (fun k x hk => alloc_cell w _ k x hk)
      have hwr : ∀ (o : Oper) y, o.guard = none → Region.wanted o y = true := fun o y hg => by unfold Region.wanted; rw [hg]
      unfold wpList
      rw [if_pos (hwr _ _ rfl)]
      left
      unfold Oper.wp
      have r0 : (execOp a.eval { dst := some d, op := .makeMap t none, type := ty, pos := p, after := af, guard := none }).run P w = .ok (.value (.map (some w.heap.size))) (w.alloc (.map #[] 0)) := rfl
      rw [r0, Oper.upon_value]
      unfold wpList
      rw [if_pos (hwr _ _ rfl)]
      left
      unfold Oper.wp
      have r1 : ∀ (ρ : Operand → Value), ρ (.tmp d) = .map (some w.heap.size) → ρ (.const k1) = k1 → ρ (.const v1) = v1 → (execOp ρ { dst := none, op := .insert t' (.tmp d) (.const k1) (.const v1), type := ty1, pos := p1, after := af1, guard := none }).run P (w.alloc (.map #[] 0)) = .ok .skip (w.alloc (.map #[⟨k1, v1, 0⟩] 1)) := fun ρ e1 e2 e3 => by
        simp only [execOp, e1, e2, e3, Sem.run_bind, run_insert ht hq w #[] 0 hf1, Result.andThen_ok, Sem.run_pure]
        rfl
      rw [r1 _ (hev _) rfl rfl, Oper.upon_skip]
      unfold wpList
      rw [if_pos (hwr _ _ rfl)]
      left
      unfold Oper.wp
      have r2 : ∀ (ρ : Operand → Value), ρ (.tmp d) = .map (some w.heap.size) → ρ (.const k2) = k2 → ρ (.const v2) = v2 → (execOp ρ { dst := none, op := .insert t' (.tmp d) (.const k2) (.const v2), type := ty2, pos := p2, after := af2, guard := none }).run P (w.alloc (.map #[⟨k1, v1, 0⟩] 1)) = .ok .skip (w.alloc (.map #[⟨k1, v1, 0⟩, ⟨k2, v2, 1⟩] 2)) := fun ρ e1 e2 e3 => by
        simp only [execOp, e1, e2, e3, Sem.run_bind, run_insert ht hq w #[⟨k1, v1, 0⟩] 1 hf2, Result.andThen_ok, Sem.run_pure]
        rfl
      rw [r2, Oper.upon_skip]
      rotate_left
      · exact hev _
      · rfl
      · rfl
      exact h _ _ ⟨β, hs.put (some d) hd hi.1 hi.2 (.mp _ w.heap.size 2 (by exact Array.getElem?_push_size))⟩
    · exact h.elim
  · exact h.elim
end

end Go.Proofs.YtnlmdeeadldgmaaGreatDoor.VL

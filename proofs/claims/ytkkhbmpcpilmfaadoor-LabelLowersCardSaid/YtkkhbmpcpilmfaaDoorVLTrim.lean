/- The value logic: what lies behind a slice of one's own is forgotten before one appends to it; capacities that are known. -/
import Derived.Test.YtkkhbmpcpilmfaaDoorVLOps6
import Derived.Test.YtkkhbmpcpilmfaaDoorVLShare
set_option linter.unusedVariables false
set_option linter.unusedSimpArgs false
namespace Go.Proofs.YtkkhbmpcpilmfaaDoor.VL
open Go Go.RowKit Go.Lib

/-- The cells of a box from the m-th on are forgotten. -/
theorem trim_inv {base : Nat} {w : World} {H : List Box} {β : Pl} {b m : Nat} {bx : Box} (hI : Inv base w H β) (hb : H[b]? = some bx) (hgrow : bx.grow = true) (hm : bx.ro ≤ m) (hmc : m ≤ bx.cells.length) :
    Inv base w (H.set b ⟨bx.cells.take m, bx.ro, bx.gen, true⟩) β ∧ Stp base w H β w (H.set b ⟨bx.cells.take m, bx.ro, bx.gen, true⟩) β := by
  have hbl : b < H.length := (List.getElem?_eq_some_iff.1 hb).1
  have hget : ∀ i bx1, (H.set b ⟨bx.cells.take m, bx.ro, bx.gen, true⟩)[i]? = some bx1 → (i = b ∧ bx1 = ⟨bx.cells.take m, bx.ro, bx.gen, true⟩) ∨ (i ≠ b ∧ H[i]? = some bx1) := by
    intro i bx1 h
    by_cases hi : i = b
    · subst hi
      rw [List.getElem?_set_self hbl] at h
      exact .inl ⟨rfl, (Option.some.inj h).symm⟩
    · rw [List.getElem?_set_ne (Ne.symm hi)] at h
      exact .inr ⟨hi, h⟩
  have hwr : ∀ k x, Wr (H.set b ⟨bx.cells.take m, bx.ro, bx.gen, true⟩) β k x → Wr H β k x := by
    rintro k x ⟨i, bi, s, h1, h2, h3, h4⟩
    rcases hget i bi h1 with ⟨rfl, rfl⟩ | ⟨hi, h1⟩
    · exact ⟨i, bx, s, hb, h2, h3, .inl hgrow⟩
    · exact ⟨i, bi, s, h1, h2, h3, h4⟩
  have hst : Stp base w H β w (H.set b ⟨bx.cells.take m, bx.ro, bx.gen, true⟩) β :=
    ⟨rfl, rfl, rfl, Nat.le_refl _, fun _ c _ fr h => ⟨c, fr, h, rfl, fun _ => rfl, fun h => h⟩, fun _ _ h _ => h, fun _ _ _ _ => rfl, fun k x _ h => hwr k x h, fun i bi hi => by
      by_cases hib : i = b
      · subst hib
        rw [hb] at hi
        obtain rfl := Option.some.inj hi
        exact ⟨_, List.getElem?_set_self hbl, Nat.le_refl _, fun _ => rfl⟩
      · exact ⟨bi, by rw [List.getElem?_set_ne (Ne.symm hib)]; exact hi, Nat.le_refl _, fun _ => rfl⟩⟩
  refine ⟨⟨hI.bse, fun i bi hi => ?_, fun i bi hi hv' => ?_, fun i bi k s hi hl => ?_, fun i bi k s hi hl j c hj => ?_, fun k x h => hI.free k x (hwr k x h), fun i i' bi bi' k s s' x hne hi hi' hl hl' h1 h2 h3 => ?_⟩, hst⟩
  · rcases hget i bi hi with ⟨rfl, rfl⟩ | ⟨_, h⟩
    · simp only [List.length_take]; omega
    · exact hI.ro i bi h
  · rcases hget i bi hi with ⟨rfl, rfl⟩ | ⟨hi', h⟩
    · simp [hI.virt _ bx hb hv']
    · exact hI.virt i bi h hv'
  · rcases hget i bi hi with ⟨rfl, rfl⟩ | ⟨hi', h⟩
    · exact hI.real _ bx k s hb hl
    · exact hI.real i bi k s h hl
  · rcases hget i bi hi with ⟨rfl, rfl⟩ | ⟨hi', h⟩
    · dsimp only at hj
      have hj' : bx.cells[j]? = some c := by
        rw [List.getElem?_take] at hj
        split at hj
        · exact hj
        · cases hj
      obtain ⟨x, g1, g0, g2⟩ := hI.cells _ bx k s hb hl j c hj'
      exact ⟨x, g1, g0, g2.stp hst⟩
    · obtain ⟨x, g1, g0, g2⟩ := hI.cells i bi k s h hl j c hj
      exact ⟨x, g1, g0, g2.stp hst⟩
  · rcases hget i bi hi with ⟨rfl, rfl⟩ | ⟨hx, h⟩
    · rcases hget i' bi' hi' with ⟨rfl, rfl⟩ | ⟨hx', h'⟩
      · exact absurd rfl hne
      · exact hI.apart i i' bx bi' k s s' x hne hb h' hl hl' h1 (.inl hgrow) h3
    · rcases hget i' bi' hi' with ⟨rfl, rfl⟩ | ⟨hx', h'⟩
      · exact fun _ => hI.apart i i' bi bx k s s' x hne h hb hl hl' h1 h2 h3 (.inl hgrow)
      · exact hI.apart i i' bi bi' k s s' x hne h h' hl hl' h1 h2 h3

/-- Append; what lies behind the slice is forgotten. -/
def aappendT (P : Program) (t : TypeId) (H : List Box) (s x : AV) : Option (AV × List Box) :=
  match s with
  | .sl b g off n sz false => match H[b]? with
    | some bx => if off + n * sz < bx.cells.length ∧ bx.ro ≤ off + n * sz ∧ bx.grow = true then
        aappend' P t (H.set b ⟨bx.cells.take (off + n * sz), bx.ro, bx.gen, true⟩) (.sl b g off n sz false) x
      else aappend' P t H (.sl b g off n sz false) x
    | none => none
  | s => aappend' P t H s x

theorem does_appendT {P : Program} {A : Operand → AV} {ρ : Operand → Value} {o : Oper} {base : Nat} {w : World} {H : List Box} {β : Pl} (hI : Inv base w H β) (hA : ∀ x, Rep w H β (A x) (ρ x)) {t t2 : TypeId} {s x : Operand} (ho : o.op = .call { callee := .builtin .append, args := #[s, x], argTypes := #[t, t2] })
    (h2 : notInt P t2 = true) {r : AV} {H' : List Box} (h : aappendT P t H (A s) (A x) = some (r, H')) : Does P ρ o base w H β r H' := by
  unfold aappendT at h
  split at h
  · rename_i b g off n sz hAs
    split at h
    · rename_i bx hb
      split at h
      · rename_i hc
        obtain ⟨i1, i2⟩ := trim_inv hI hb hc.2.2 hc.2.1 (by omega)
        have hA' : ∀ x, Rep w (H.set b ⟨bx.cells.take (off + n * sz), bx.ro, bx.gen, true⟩) β (A x) (ρ x) := fun x => (hA x).stp i2
        obtain ⟨v, w', β', r1, r2, r3, r4⟩ := does_append' i1 hA' ho h2 (by rw [hAs]; exact h)
        exact ⟨v, w', β', r1, r2, i2.trans r3, r4⟩
      · exact does_append' hI hA ho h2 (by rw [hAs]; exact h)
    · cases h
  · exact does_append' hI hA ho h2 h

/-- How much room there is, where that is known. -/
def acap (P : Program) (t : TypeId) (H : List Box) (x : AV) : Option AV :=
  match P.underlying t, x with
  | some (.slice _), .emp => some (.v (.int .i64 0))
  | some (.slice _), .sl b g _ n _ true => if live H b g then some (.v (.int .i64 n)) else none
  | _, _ => none
theorem does_cap {P : Program} {A : Operand → AV} {ρ : Operand → Value} {o : Oper} {base : Nat} {w : World} {H : List Box} {β : Pl} (hI : Inv base w H β) (hA : ∀ x, Rep w H β (A x) (ρ x)) {t : TypeId} {x : Operand} (ho : o.op = .call { callee := .builtin .cap, args := #[x], argTypes := #[t] }) {r : AV} (h : acap P t H (A x) = some r) : Does P ρ o base w H β r H := by
  have hx := hA x
  have key : ∀ n : Nat, (Builtin.cap_ #[t] o.type #[ρ x]).run P w = .ok (goInt n) w → Does P ρ o base w H β (.v (.int .i64 n)) H := fun n hn =>
    .same hI (v := .int .i64 n) (by simp [execOp, ho, resolve, invoke, builtin, hn]; rfl) (.v _)
  unfold acap at h
  split at h
  · rename_i e hu hAx
    rw [hAx] at hx
    injection h with h
    subst h
    generalize hv : ρ x = v at hx
    cases hx with
    | emp a => exact key 0 (by rw [hv]; simp [Builtin.cap_, run_underlying hu])
  · rename_i e b g off n sz hu hAx
    rw [hAx] at hx
    split at h
    · rename_i hl
      injection h with h
      subst h
      obtain ⟨bx, e1, e2, a, cap, hv, _, hf, _⟩ := live_sl hl hx
      have := hf rfl
      subst this
      exact key _ (by rw [hv]; simp [Builtin.cap_, run_underlying hu])
    · cases h
  · cases h

/-! ### Append of so many zeros to an empty slice (the zeros aren't remembered) -/
def isInt (P : Program) (t : TypeId) : Bool := match P.underlying t with | some (.int _) => true | _ => false
theorem run_append_zeros {P : Program} {w : World} {t t2 ty e : TypeId} {i : TypeInfo} {z : Value} (ht : P.underlying t = some (.slice e)) (h2 : isInt P t2 = true) (hi : P.info? e = some i) (hz : i.zero = some z)
    {a : Option Addr} {m : Nat} {k : IntKind} (h0 : 0 < m) (hs : 0 < i.size) (h63 : (m : Int) ≤ 9223372036854775807) (hb : (m : Int) * (i.bytes : Int) ≤ 281474976710656) (hfit : Builtin.nextslicecap m 0 * i.bytes ≤ 281474976710656) :
    (Builtin.append_ #[t, t2] ty #[.slice a 0 0, .int k m]).run P w =
      .ok (.slice (some ⟨w.heap.size, 0, none⟩) m (grownCap w m 0 e))
        (w.drew.alloc (.cells (Builtin.zeroCells z.cells m ++ Builtin.zeroCells z.cells (grownCap w m 0 e - m)) e)) := by
  have h48' : ¬ (281474976710656 < Builtin.nextslicecap m 0 * i.bytes) := by omega
  have hw : IntKind.i64.wrap (m : Int) = (m : Int) := by simp [IntKind.wrap, IntKind.bits, IntKind.signed]; omega
  have hn0 : ¬ ((m : Int) < 0) := by omega
  have hb' : ¬ (281474976710656 < (m : Int) * (i.bytes : Int)) := by omega
  have hm0 : ¬ m = 0 := by omega
  have hms : ¬ m * i.size = 0 := Nat.ne_of_gt (Nat.mul_pos h0 hs)
  have h63' : ¬ (9223372036854775807 < (m : Int)) := by omega
  have hs0 : ¬ i.size = 0 := by omega
  unfold isInt at h2
  split at h2
  · rename_i e' hd2
    cases a <;> simp [Builtin.append_, run_underlying ht, run_underlying hd2, sizeOf, typeInfo, zeroValue, hi, hz, asInt, asIntOf, hw, hn0, hb', hm0, hms, hs0, h63', h48', Question.forced, newRow, grownCap, Builtin.firstCells, Go.loadCells, Go.loadCellsFrom]
  · cases h2

def aappendZ (P : Program) (t : TypeId) (H : List Box) (s x : AV) : Option (AV × List Box) :=
  match elemTy P t, s, x with
  | some e, .emp, .v (.int _ n) => match zeroCs P e with
    | some z => if 0 < n ∧ n * P.bytesOf e ≤ 140737488355328 ∧ n ≤ 140737488355328 ∧ 0 < P.cellsOf e ∧ z.length = P.cellsOf e then
        some (.sl H.length 0 0 n.toNat (P.cellsOf e) false, H ++ [⟨[], 0, 0, true⟩]) else none
    | none => none
  | _, _, _ => none
theorem does_appendZ {P : Program} {A : Operand → AV} {ρ : Operand → Value} {o : Oper} {base : Nat} {w : World} {H : List Box} {β : Pl} (hI : Inv base w H β) (hA : ∀ x, Rep w H β (A x) (ρ x)) {t t2 : TypeId} {s x : Operand} (ho : o.op = .call { callee := .builtin .append, args := #[s, x], argTypes := #[t, t2] })
    (h2 : isInt P t2 = true) {r : AV} {H' : List Box} (h : aappendZ P t H (A s) (A x) = some (r, H')) : Does P ρ o base w H β r H' := by
  have hs := hA s
  have hx := hA x
  unfold aappendZ at h
  split at h
  · rename_i e ik n he hAs hAx
    obtain ⟨hu, d, hd⟩ := elemTy_spec he
    rw [hAs] at hs
    rw [hAx] at hx
    split at h
    · rename_i z hz
      split at h
      · rename_i hcond
        obtain ⟨h0, hbd, hn47, hc0, hzl⟩ := hcond
        injection h with h
        injection h with e1 e2
        subst e1; subst e2
        generalize hvs : ρ s = vs at hs
        generalize hvx : ρ x = vx at hx
        cases hs with
        | emp a =>
        cases hx
        obtain ⟨i0, zv, hi, hiz, hsz, hby, z2, z3⟩ := zero_full hz
        obtain ⟨m, rfl⟩ := Int.eq_ofNat_of_zero_le (Int.le_of_lt h0)
        have hzsz : zv.cells.size = P.cellsOf e := by
          have := congrArg List.length z2
          simp at this
          omega
        have hbd' : m * P.bytesOf e ≤ 140737488355328 := by
          have : ((m * P.bytesOf e : Nat) : Int) ≤ 140737488355328 := by rw [Int.natCast_mul]; exact hbd
          omega
        have hrun := run_append_zeros (P := P) (w := w) (ty := o.type) (a := a) (k := ik) (m := m) hu h2 hi hiz (by omega) (by omega) (by omega) (by rw [hby]; rw [← Int.natCast_mul]; omega) (growslice_fits (by omega) (by rw [hby]; exact hbd'))
        have hgc := grownCap_le w m 0 e
        obtain ⟨g, hg⟩ : ∃ g, g = grownCap w m 0 e := ⟨_, rfl⟩
        rw [← hg] at hrun hgc
        obtain ⟨C, hC⟩ : ∃ C, C = Builtin.zeroCells zv.cells m ++ Builtin.zeroCells zv.cells (g - m) := ⟨_, rfl⟩
        rw [← hC] at hrun
        have hCsz : C.size = g * P.cellsOf e := by
          rw [hC, Array.size_append, zeroCells_size, zeroCells_size, hzsz, ← Nat.add_mul]
          congr 1; omega
        obtain ⟨β', g1, g2, g3⟩ := grown_box (e := e) hI [] [] C.toList (fun j c hj => by simp at hj) rfl C rfl
        refine ⟨.slice (some ⟨w.heap.size, 0, none⟩) m g, _, β', .inl ?_, g1, g2, rep_sl (bx := ⟨[], 0, 0, true⟩) (by simp) rfl ?_⟩
        · simp [execOp, ho, hvs, hvx, resolve, invoke, builtin, hrun]
        · rw [g3]
          exact sl_new w C e m g (P.cellsOf e) hgc (by rw [hCsz]; exact Nat.le_refl _)
      · cases h
    · cases h
  · cases h

end Go.Proofs.YtkkhbmpcpilmfaaDoor.VL

/- The value logic: what lies behind a slice of one's own is forgotten before one appends to it; capacities that are known. -/
import Derived.Test.YtnlmdeeadldgmaaGreatDoorZG06
import Derived.Stop.BytesEq
set_option linter.unusedVariables false
set_option linter.unusedSimpArgs false
namespace Go.Proofs.YtnlmdeeadldgmaaGreatDoor.VL
open Go Go.RowKit Go.Lib

/-- The cells of a box from the m-th on are forgotten. -/
theorem trim_inv {base : Nat} {w : World} {H : List Box} {β : Pl} {b m : Nat} {bx : Box} (hI : Inv base w H β) (hb : H[b]? = some bx) (hgrow : bx.grow = true) (hm : bx.ro ≤ m) (hmc : m ≤ bx.cells.length) :
    Inv base w (H.set b ⟨bx.cells.take m, bx.ro, bx.gen, true⟩) β ∧ Stp base w H β w (H.set b ⟨bx.cells.take m, bx.ro, bx.gen, true⟩) β := by
  have hbl : b < H.length := (List.getElem?_eq_some_iff.1 hb).1
  have hget : ∀ i bx1, (H.set b ⟨bx.cells.take m, bx.ro, bx.gen, true⟩)[i]? = some bx1 → (i = b ∧ bx1 = ⟨bx.cells.take m, bx.ro, bx.gen, true⟩) ∨ (i ≠ b ∧ H[i]? = some bx1) := by
    intro i bx1 h
    by_cases hi : i = b
    · subst hi
      rw [List.getElem?_set_self hbl] at h
      exact .inl ⟨rfl, (Option.some.inj h).symm⟩
    · rw [List.getElem?_set_ne (Ne.symm hi)] at h
      exact .inr ⟨hi, h⟩
  have hwr : ∀ k x, Wr (H.set b ⟨bx.cells.take m, bx.ro, bx.gen, true⟩) β k x → Wr H β k x := by
    rintro k x ⟨i, bi, s, h1, h2, h3, h4⟩
    rcases hget i bi h1 with ⟨rfl, rfl⟩ | ⟨hi, h1⟩
    · exact ⟨i, bx, s, hb, h2, h3, .inl hgrow⟩
    · exact ⟨i, bi, s, h1, h2, h3, h4⟩
  have hst : Stp base w H β w (H.set b ⟨bx.cells.take m, bx.ro, bx.gen, true⟩) β :=
    ⟨rfl, rfl, rfl, Nat.le_refl _, fun _ c _ fr h => ⟨c, fr, h, rfl, fun _ => rfl, fun h _ => h⟩, fun _ _ h _ => h, fun _ _ _ _ => rfl, fun k x _ h => hwr k x h, fun i bi hi => by
      by_cases hib : i = b
      · subst hib
        rw [hb] at hi
        obtain rfl := Option.some.inj hi
        exact ⟨_, List.getElem?_set_self hbl, Nat.le_refl _, fun _ => rfl⟩
      · exact ⟨bi, by rw [List.getElem?_set_ne (Ne.symm hib)]; exact hi, Nat.le_refl _, fun _ => rfl⟩⟩
  refine ⟨⟨hI.bse, fun i bi hi => ?_, fun i bi hi hv' => ?_, fun i bi k s hi hl => ?_, fun i bi k s hi hl j c hj => ?_, fun k x h hc => hI.free k x (hwr k x h) hc, fun i i' bi bi' k s s' x hne hi hi' hl hl' h1 h2 h3 => ?_⟩, hst⟩
  · rcases hget i bi hi with ⟨rfl, rfl⟩ | ⟨_, h⟩
    · simp only [List.length_take]; omega
    · exact hI.ro i bi h
  · rcases hget i bi hi with ⟨rfl, rfl⟩ | ⟨hi', h⟩
    · simp [hI.virt _ bx hb hv']
    · exact hI.virt i bi h hv'
  · rcases hget i bi hi with ⟨rfl, rfl⟩ | ⟨hi', h⟩
    · exact hI.real _ bx k s hb hl
    · exact hI.real i bi k s h hl
  · rcases hget i bi hi with ⟨rfl, rfl⟩ | ⟨hi', h⟩
    · dsimp only at hj
      have hj' : bx.cells[j]? = some c := by
        rw [List.getElem?_take] at hj
        split at hj
        · exact hj
        · cases hj
      obtain ⟨x, g1, g0, g2⟩ := hI.cells _ bx k s hb hl j c hj'
      exact ⟨x, g1, g0, g2.stp hst⟩
    · obtain ⟨x, g1, g0, g2⟩ := hI.cells i bi k s h hl j c hj
      exact ⟨x, g1, g0, g2.stp hst⟩
  · rcases hget i bi hi with ⟨rfl, rfl⟩ | ⟨hx, h⟩
    · rcases hget i' bi' hi' with ⟨rfl, rfl⟩ | ⟨hx', h'⟩
      · exact absurd rfl hne
      · exact hI.apart i i' bx bi' k s s' x hne hb h' hl hl' h1 (.inl hgrow) h3
    · rcases hget i' bi' hi' with ⟨rfl, rfl⟩ | ⟨hx', h'⟩
      · exact fun _ => hI.apart i i' bi bx k s s' x hne h hb hl hl' h1 h2 h3 (.inl hgrow)
      · exact hI.apart i i' bi bi' k s s' x hne h h' hl hl' h1 h2 h3

/-- Append; what lies behind the slice is forgotten. -/
def aappendT (P : Program) (t : TypeId) (H : List Box) (s x : AV) : Option (AV × List Box) :=
  match s with
  | .sl b g off n sz false => match H[b]? with
    | some bx => if off + n * sz < bx.cells.length ∧ bx.ro ≤ off + n * sz ∧ bx.grow = true then
        aappend' P t (H.set b ⟨bx.cells.take (off + n * sz), bx.ro, bx.gen, true⟩) (.sl b g off n sz false) x
      else aappend' P t H (.sl b g off n sz false) x
    | none => none
  | s => aappend' P t H s x

theorem does_appendT {P : Program} {A : Operand → AV} {ρ : Operand → Value} {o : Oper} {base : Nat} {w : World} {H : List Box} {β : Pl} (hI : Inv base w H β) (hA : ∀ x, Rep w H β (A x) (ρ x)) {t t2 : TypeId} {s x : Operand} (ho : o.op = .call { callee := .builtin .append, args := #[s, x], argTypes := #[t, t2] })
    (h2 : notInt P t2 = true) {r : AV} {H' : List Box} (h : aappendT P t H (A s) (A x) = some (r, H')) : Does P ρ o base w H β r H' := by
  unfold aappendT at h
  split at h
  · rename_i b g off n sz hAs
    split at h
    · rename_i bx hb
      split at h
      · rename_i hc
        obtain ⟨i1, i2⟩ := trim_inv hI hb hc.2.2 hc.2.1 (by omega)
        have hA' : ∀ x, Rep w (H.set b ⟨bx.cells.take (off + n * sz), bx.ro, bx.gen, true⟩) β (A x) (ρ x) := fun x => (hA x).stp i2
        obtain ⟨v, w', β', r1, r2, r3, r4⟩ := does_append' i1 hA' ho h2 (by rw [hAs]; exact h)
        exact ⟨v, w', β', r1, r2, i2.trans r3, r4⟩
      · exact does_append' hI hA ho h2 (by rw [hAs]; exact h)
    · cases h
  · exact does_append' hI hA ho h2 h

/-- How much room there is, where that is known. -/
def acap (P : Program) (t : TypeId) (H : List Box) (x : AV) : Option AV :=
  match P.underlying t, x with
  | some (.slice _), .emp => some (.v (.int .i64 0))
  | some (.slice _), .sl b g _ n _ true => if live H b g then some (.v (.int .i64 n)) else none
  | _, _ => none
theorem does_cap {P : Program} {A : Operand → AV} {ρ : Operand → Value} {o : Oper} {base : Nat} {w : World} {H : List Box} {β : Pl} (hI : Inv base w H β) (hA : ∀ x, Rep w H β (A x) (ρ x)) {t : TypeId} {x : Operand} (ho : o.op = .call { callee := .builtin .cap, args := #[x], argTypes := #[t] }) {r : AV} (h : acap P t H (A x) = some r) : Does P ρ o base w H β r H := by
  have hx := hA x
  have key : ∀ n : Nat, (Builtin.cap_ #[t] o.type #[ρ x]).run P w = .ok (goInt n) w → Does P ρ o base w H β (.v (.int .i64 n)) H := fun n hn =>
    .same hI (v := .int .i64 n) (by simp [execOp, ho, resolve, invoke, builtin, hn]; rfl) (.v _)
  unfold acap at h
  split at h
  · rename_i e hu hAx
    rw [hAx] at hx
    injection h with h
    subst h
    generalize hv : ρ x = v at hx
    cases hx with
    | emp a => exact key 0 (by rw [hv]; simp [Builtin.cap_, run_underlying hu])
  · rename_i e b g off n sz hu hAx
    rw [hAx] at hx
    split at h
    · rename_i hl
      injection h with h
      subst h
      obtain ⟨bx, e1, e2, a, cap, hv, _, hf, _⟩ := live_sl hl hx
      have := hf rfl
      subst this
      exact key _ (by rw [hv]; simp [Builtin.cap_, run_underlying hu])
    · cases h
  · cases h

/-! ### Append of so many zeros to an empty slice (the zeros aren't remembered) -/
def isInt (P : Program) (t : TypeId) : Bool := match P.underlying t with | some (.int _) => true | _ => false
theorem run_append_zeros {P : Program} {w : World} {t t2 ty e : TypeId} {i : TypeInfo} {z : Value} (ht : P.underlying t = some (.slice e)) (h2 : isInt P t2 = true) (hi : P.info? e = some i) (hz : i.zero = some z)
    {a : Option Addr} {m : Nat} {k : IntKind} (h0 : 0 < m) (hs : 0 < i.size) (h63 : (m : Int) ≤ 9223372036854775807) (hb : (m : Int) * (i.bytes : Int) ≤ 281474976710656) (hfit : Builtin.nextslicecap m 0 * i.bytes ≤ 281474976710656) :
    (Builtin.append_ #[t, t2] ty #[.slice a 0 0, .int k m]).run P w =
      .ok (.slice (some ⟨w.heap.size, 0, none⟩) m (grownCap w m 0 e))
        (w.drew.alloc (.cells (Builtin.zeroCells z.cells m ++ Builtin.zeroCells z.cells (grownCap w m 0 e - m)) e)) := by
  have h48' : ¬ (281474976710656 < Builtin.nextslicecap m 0 * i.bytes) := by omega
  have hw : IntKind.i64.wrap (m : Int) = (m : Int) := by simp [IntKind.wrap, IntKind.bits, IntKind.signed]; omega
  have hn0 : ¬ ((m : Int) < 0) := by omega
  have hb' : ¬ (281474976710656 < (m : Int) * (i.bytes : Int)) := by omega
  have hm0 : ¬ m = 0 := by omega
  have hms : ¬ m * i.size = 0 := Nat.ne_of_gt (Nat.mul_pos h0 hs)
  have h63' : ¬ (9223372036854775807 < (m : Int)) := by omega
  have hs0 : ¬ i.size = 0 := by omega
  unfold isInt at h2
  split at h2
  · rename_i e' hd2
    cases a <;> simp [Builtin.append_, run_underlying ht, run_underlying hd2, sizeOf, typeInfo, zeroValue, hi, hz, asInt, asIntOf, hw, hn0, hb', hm0, hms, hs0, h63', h48', Question.forced, newRow, grownCap, Builtin.firstCells, Go.loadCells, Go.loadCellsFrom]
  · cases h2

def aappendZ (P : Program) (t : TypeId) (H : List Box) (s x : AV) : Option (AV × List Box) :=
  match elemTy P t, s, x with
  | some e, .emp, .v (.int _ n) => match zeroCs P e with
    | some z => if 0 < n ∧ n * P.bytesOf e ≤ 140737488355328 ∧ n ≤ 140737488355328 ∧ 0 < P.cellsOf e ∧ z.length = P.cellsOf e then
        some (.sl H.length 0 0 n.toNat (P.cellsOf e) false, H ++ [⟨[], 0, 0, true⟩]) else none
    | none => none
  | _, _, _ => none
theorem does_appendZ {P : Program} {A : Operand → AV} {ρ : Operand → Value} {o : Oper} {base : Nat} {w : World} {H : List Box} {β : Pl} (hI : Inv base w H β) (hA : ∀ x, Rep w H β (A x) (ρ x)) {t t2 : TypeId} {s x : Operand} (ho : o.op = .call { callee := .builtin .append, args := #[s, x], argTypes := #[t, t2] })
    (h2 : isInt P t2 = true) {r : AV} {H' : List Box} (h : aappendZ P t H (A s) (A x) = some (r, H')) : Does P ρ o base w H β r H' := by
  have hs := hA s
  have hx := hA x
  unfold aappendZ at h
  split at h
  · rename_i e ik n he hAs hAx
    obtain ⟨hu, d, hd⟩ := elemTy_spec he
    rw [hAs] at hs
    rw [hAx] at hx
    split at h
    · rename_i z hz
      split at h
      · rename_i hcond
        obtain ⟨h0, hbd, hn47, hc0, hzl⟩ := hcond
        injection h with h
        injection h with e1 e2
        subst e1; subst e2
        generalize hvs : ρ s = vs at hs
        generalize hvx : ρ x = vx at hx
        cases hs with
        | emp a =>
        cases hx
        obtain ⟨i0, zv, hi, hiz, hsz, hby, z2, z3⟩ := zero_full hz
        obtain ⟨m, rfl⟩ := Int.eq_ofNat_of_zero_le (Int.le_of_lt h0)
        have hzsz : zv.cells.size = P.cellsOf e := by
          have := congrArg List.length z2
          simp at this
          omega
        have hbd' : m * P.bytesOf e ≤ 140737488355328 := by
          have : ((m * P.bytesOf e : Nat) : Int) ≤ 140737488355328 := by rw [Int.natCast_mul]; exact hbd
          omega
        have hrun := run_append_zeros (P := P) (w := w) (ty := o.type) (a := a) (k := ik) (m := m) hu h2 hi hiz (by omega) (by omega) (by omega) (by rw [hby]; rw [← Int.natCast_mul]; omega) (growslice_fits (by omega) (by rw [hby]; exact hbd'))
        have hgc := grownCap_le w m 0 e
        obtain ⟨g, hg⟩ : ∃ g, g = grownCap w m 0 e := ⟨_, rfl⟩
        rw [← hg] at hrun hgc
        obtain ⟨C, hC⟩ : ∃ C, C = Builtin.zeroCells zv.cells m ++ Builtin.zeroCells zv.cells (g - m) := ⟨_, rfl⟩
        rw [← hC] at hrun
        have hCsz : C.size = g * P.cellsOf e := by
          rw [hC, Array.size_append, zeroCells_size, zeroCells_size, hzsz, ← Nat.add_mul]
          congr 1; omega
        obtain ⟨β', g1, g2, g3⟩ := grown_box (e := e) hI [] [] C.toList (fun j c hj => by simp at hj) rfl C rfl
        refine ⟨.slice (some ⟨w.heap.size, 0, none⟩) m g, _, β', .inl ?_, g1, g2, rep_sl (bx := ⟨[], 0, 0, true⟩) (by simp) rfl ?_⟩
        · simp [execOp, ho, hvs, hvx, resolve, invoke, builtin, hrun]
        · rw [g3]
          exact sl_new w C e m g (P.cellsOf e) hgc (by rw [hCsz]; exact Nat.le_refl _)
      · cases h
    · cases h
  · cases h

end Go.Proofs.YtnlmdeeadldgmaaGreatDoor.VL

/- The value logic: values of several cells compared; rows cleared. -/
set_option linter.unusedVariables false
set_option linter.unusedSimpArgs false
namespace Go.Proofs.YtnlmdeeadldgmaaGreatDoor.VL
open Go Go.RowKit Go.Lib

/-! ### Comparing -/
/-- The bytes of cells of one byte each. -/
def bytesOfC : List AV → Option (List UInt8)
  | [] => some []
  | .v (.int .u8 n) :: r => if 0 ≤ n ∧ n ≤ 255 then (bytesOfC r).map (UInt8.ofNat n.toNat :: ·) else none
  | _ => none
theorem bytesOfC_spec : ∀ (cs : List AV) (bs : List UInt8), bytesOfC cs = some bs → cs = bs.map fun b => AV.v (.int .u8 b.toNat) := by
  intro cs
  induction cs with
  | nil => intro bs h; simp [bytesOfC] at h; subst h; rfl
  | cons c r ih =>
    intro bs h
    unfold bytesOfC at h
    split at h
    · rename_i heq; cases heq
    · rename_i n r' heq
      injection heq with e1 e2
      subst e1; subst e2
      split at h
      · rename_i hn
        obtain ⟨bs', h1, rfl⟩ := Option.map_eq_some_iff.1 h
        have e : ((UInt8.ofNat n.toNat).toNat : Int) = n := by
          rw [UInt8.toNat_ofNat']
          omega
        rw [List.map_cons, ← ih _ h1, e]
      · cases h
    · cases h
/-- Comparable at no risk. -/
def eqOk (P : Program) (t : TypeId) : Bool := !P.eqGuardType P.depth t
def tagOf (P : Program) (f : Field) (o : Nat) : Option Nat :=
  if f.name ≠ "_" ∧ f.offset = o then
    match P.underlying f.type with
    | some (.int _) => some 0
    | some .string => some 1
    | some .bool => some 2
    | _ => none
  else none
def tagsFrom (P : Program) : List Field → Nat → Option (List Nat)
  | [], _ => some []
  | f :: fs, o => match tagOf P f o, tagsFrom P fs (o + 1) with
    | some a, some as => some (a :: as)
    | _, _ => none
/-- What the fields of a flat struct are. -/
def flatTags (P : Program) (t : TypeId) : Option (List Nat) :=
  if eqOk P t = true ∧ P.stoodInHeld t = false then
    match P.underlying t with
    | some (.struct fs) => tagsFrom P fs.toList 0
    | _ => none
  else none
def eqVals : List Nat → List AV → List AV → Option Bool
  | [], [], [] => some true
  | 0 :: ts, .v (.int k a) :: xs, .v (.int k' b) :: ys => if k = k' then (eqVals ts xs ys).map (fun r => decide (a = b) && r) else none
  | 1 :: ts, .v (.string a) :: xs, .v (.string b) :: ys => (eqVals ts xs ys).map (fun r => decide (a = b) && r)
  | 2 :: ts, .v (.bool a) :: xs, .v (.bool b) :: ys => (eqVals ts xs ys).map (fun r => decide (a = b) && r)
  | _, _, _ => none

section
variable {P : Program} {ρ : Operand → Value} {A : Operand → AV} {o : Oper} {base : Nat} {w : World} {H : List Box} {β : Pl}

theorem eqVals_run {d : Nat} {X Y : Array Value} : ∀ (fs : List Field) (o : Nat) (ts : List Nat) (xs ys : List AV) (r : Bool), tagsFrom P fs o = some ts → eqVals ts xs ys = some r →
    (∀ (i : Nat) (v : Value), xs[i]? = some (.v v) → X[o + i]? = some v) → (∀ (i : Nat) (v : Value), ys[i]? = some (.v v) → Y[o + i]? = some v) →
    (Op.eqFields (d + 1) X Y fs).run P w = .ok r w := by
  intro fs
  induction fs with
  | nil =>
    intro o ts xs ys r h1 h2 _ _
    simp [tagsFrom] at h1
    subst h1
    unfold eqVals at h2
    split at h2 <;> simp_all [Op.eqFields]
  | cons f fs ih =>
    intro o ts xs ys r h1 h2 hX hY
    simp only [tagsFrom] at h1
    split at h1
    · rename_i a as ha has
      injection h1 with h1
      subst h1
      unfold tagOf at ha
      split at ha
      · rename_i hn
        obtain ⟨hname, hoff⟩ := hn
        have key : ∀ (x y : Value) (b r' : Bool), (∀ e, P.underlying f.type = some e → (∀ fs, e ≠ .struct fs) ∧ (∀ n e', e ≠ .array n e')) → (P.underlying f.type).isSome = true → X[o]? = some x → Y[o]? = some y →
            (Op.equalIn (d + 1) f.type x y).run P w = .ok b w → (Op.eqFields (d + 1) X Y fs).run P w = .ok r' w → (Op.eqFields (d + 1) X Y (f :: fs)).run P w = .ok (b && r') w := by
          intro x y b r' hag hs hx hy he hr
          have hpart : ∀ (Z : Array Value) (z : Value), Z[o]? = some z → (part f.type Z f.offset).run P w = .ok z w := fun Z z hz => by
            obtain ⟨e, hu⟩ := Option.isSome_iff_exists.1 hs
            obtain ⟨g1, g2⟩ := hag e hu
            unfold part isAgg
            simp only [Sem.run_bind, run_underlying hu, Result.andThen_ok, Sem.run_pure]
            cases e <;> simp_all
          simp only [Op.eqFields, if_pos hname, Sem.run_bind, hpart X x hx, hpart Y y hy, he, Result.andThen_ok, Sem.run_ite]
          cases b with
          | true => simpa using hr
          | false => simp
        split at ha
        · rename_i k hu
          injection ha with ha
          subst ha
          unfold eqVals at h2
          split at h2
          · rename_i h; simp at h
          · rename_i ts' k1 x xs' k2 y ys' heq
            simp only [List.cons.injEq] at heq
            obtain ⟨-, rfl⟩ := heq
            split at h2
            · rename_i hk
              subst hk
              obtain ⟨r', h3, rfl⟩ := Option.map_eq_some_iff.1 h2
              refine key _ _ _ _ (fun e he => by rw [hu] at he; injection he with he; subst he; simp) (by rw [hu]; rfl) (by simpa using hX 0 _ rfl) (by simpa using hY 0 _ rfl) ?_ (ih (o + 1) _ _ _ _ has h3 (fun i v hi => by have := hX (i + 1) v (by simpa using hi); rwa [show o + (i + 1) = o + 1 + i by omega] at this) (fun i v hi => by have := hY (i + 1) v (by simpa using hi); rwa [show o + (i + 1) = o + 1 + i by omega] at this))
              rw [run_equalIn_int w d f.type k1 k _ _ hu, beqd]
            · cases h2
          · rename_i heq; simp at heq
          · rename_i heq; simp at heq
          · cases h2
        · rename_i hu
          injection ha with ha
          subst ha
          unfold eqVals at h2
          split at h2
          · rename_i h; simp at h
          · rename_i heq; simp at heq
          · rename_i ts' x xs' y ys' heq
            simp only [List.cons.injEq] at heq
            obtain ⟨-, rfl⟩ := heq
            obtain ⟨r', h3, rfl⟩ := Option.map_eq_some_iff.1 h2
            refine key _ _ _ _ (fun e he => by rw [hu] at he; injection he with he; subst he; simp) (by rw [hu]; rfl) (by simpa using hX 0 _ rfl) (by simpa using hY 0 _ rfl) ?_ (ih (o + 1) _ _ _ _ has h3 (fun i v hi => by have := hX (i + 1) v (by simpa using hi); rwa [show o + (i + 1) = o + 1 + i by omega] at this) (fun i v hi => by have := hY (i + 1) v (by simpa using hi); rwa [show o + (i + 1) = o + 1 + i by omega] at this))
            rw [run_equalIn_string w d f.type _ _ hu, bytes_list_eq]
          · rename_i heq; simp at heq
          · cases h2
        · rename_i hu
          injection ha with ha
          subst ha
          unfold eqVals at h2
          split at h2
          · rename_i h; simp at h
          · rename_i heq; simp at heq
          · rename_i heq; simp at heq
          · rename_i ts' x xs' y ys' heq
            simp only [List.cons.injEq] at heq
            obtain ⟨-, rfl⟩ := heq
            obtain ⟨r', h3, rfl⟩ := Option.map_eq_some_iff.1 h2
            refine key _ _ _ _ (fun e he => by rw [hu] at he; injection he with he; subst he; simp) (by rw [hu]; rfl) (by simpa using hX 0 _ rfl) (by simpa using hY 0 _ rfl) ?_ (ih (o + 1) _ _ _ _ has h3 (fun i v hi => by have := hX (i + 1) v (by simpa using hi); rwa [show o + (i + 1) = o + 1 + i by omega] at this) (fun i v hi => by have := hY (i + 1) v (by simpa using hi); rwa [show o + (i + 1) = o + 1 + i by omega] at this))
            rw [run_equalIn_bool' w d f.type _ _ hu, beqd]
          · cases h2
        · cases ha
      · cases ha
    · cases h1

def aggEqB (P : Program) (t : TypeId) (xs ys : List AV) : Option Bool :=
  match P.underlying t with
  | some (.array n e) => match P.underlying e with
    | some (.int .u8) => if eqOk P t = true ∧ P.cellsOf e = 1 then
        match bytesOfC xs, bytesOfC ys with
        | some a, some b => if a.length = n ∧ b.length = n then some (decide (a = b)) else none
        | _, _ => none
      else none
    | _ => none
  | some (.struct _) => (flatTags P t).bind fun ts => eqVals ts xs ys
  | _ => none
def aggEq (P : Program) (op : BinOp) (t : TypeId) (xs ys : List AV) : Option AV :=
  match op with
  | .eql => (aggEqB P t xs ys).map fun r => .v (.bool r)
  | .neq => (aggEqB P t xs ys).map fun r => .v (.bool !r)
  | _ => none

theorem rep_agg_v {cs : List AV} {x : Value} (h : Rep w H β (.agg cs) x) : ∃ vs : Array Value, x = .agg vs ∧ cs.length = vs.size ∧ ∀ (i : Nat) (v : Value), cs[i]? = some (.v v) → vs[i]? = some v := by
  cases h with
  | agg _ vs hl h =>
    refine ⟨vs, rfl, hl, fun i v hi => ?_⟩
    have hlt : i < vs.size := by have := (List.getElem?_eq_some_iff.1 hi).1; omega
    have := h i _ _ hi (Array.getElem?_eq_getElem hlt)
    rw [Array.getElem?_eq_getElem hlt]
    generalize vs[i] = u at this
    cases this
    rfl
theorem aggEqB_run {t : TypeId} {xs ys : List AV} {x y : Value} {r : Bool} (hx : Rep w H β (.agg xs) x) (hy : Rep w H β (.agg ys) y) (h : aggEqB P t xs ys = some r) :
    ∃ X Y, x = .agg X ∧ y = .agg Y ∧ (Op.equalIn 10000 t (.agg X) (.agg Y)).run P w = .ok r w ∧ P.eqGuardType P.depth t = false := by
  obtain ⟨X, rfl, hlx, hX⟩ := rep_agg_v hx
  obtain ⟨Y, rfl, hly, hY⟩ := rep_agg_v hy
  refine ⟨X, Y, rfl, rfl, ?_⟩
  unfold aggEqB at h
  split at h
  · rename_i n e hu
    split at h
    · rename_i he
      split at h
      · rename_i hok
        obtain ⟨hok, hc1⟩ := hok
        split at h
        · rename_i a b ha hb
          split at h
          · rename_i hn
            obtain ⟨hna, hnb⟩ := hn
            injection h with h
            have toC : ∀ (cs : List AV) (bs : List UInt8) (Z : Array Value), bytesOfC cs = some bs → cs.length = Z.size → (∀ (i : Nat) (v : Value), cs[i]? = some (.v v) → Z[i]? = some v) → Z = (bs.map Extern.Stop.cell).toArray := fun cs bs Z h1 h2 h3 => by
              have h4 := bytesOfC_spec _ _ h1
              subst h4
              apply Array.ext_getElem?
              intro i
              simp only [List.getElem?_toArray, List.getElem?_map]
              cases hb : bs[i]? with
              | none =>
                have := List.getElem?_eq_none_iff.1 hb
                simp only [Option.map_none]
                exact Array.getElem?_eq_none (by simpa [← h2] using this)
              | some u =>
                have := h3 i (.int .u8 u.toNat) (by simp [hb])
                rw [this]; rfl
            rw [toC xs a X ha hlx hX, toC ys b Y hb hly hY]
            refine ⟨?_, by simpa [eqOk] using hok⟩
            have hsz : ∀ w, (sizeOf e).run P w = .ok 1 w := fun w => by rw [run_sizeOf' he, hc1]
            rw [run_equalIn_bytes w 9998 t e n hu he hsz a b hna hnb, beqd, h]
          · cases h
        · cases h
      · cases h
    · cases h
  · rename_i fs hu
    obtain ⟨ts, h1, h2⟩ := Option.bind_eq_some_iff.1 h
    unfold flatTags at h1
    split at h1
    · rename_i hok
      rw [hu] at h1
      simp only at h1
      have hfs : P.fieldsOf t = fs := by simp [Program.fieldsOf, hu]
      refine ⟨?_, by simpa [eqOk] using hok.1⟩
      rw [run_equalIn_struct w 9999 t X Y (by rw [hfs]; exact hu) hok.2, hfs]
      exact eqVals_run (d := 9998) fs.toList 0 ts xs ys r h1 h2 (fun i v hi => by rw [Nat.zero_add]; exact hX i v hi) (fun i v hi => by rw [Nat.zero_add]; exact hY i v hi)
    · cases h1
  · cases h

theorem does_aggEq (hI : Inv base w H β) (hA : ∀ x, Rep w H β (A x) (ρ x)) {op : BinOp} {t yt : TypeId} {x y : Operand} (ho : o.op = .binOp op t x y yt) {xs ys : List AV} (hx : A x = .agg xs) (hy : A y = .agg ys) {r : AV} (h : aggEq P op t xs ys = some r) : Does P ρ o base w H β r H := by
  have h1 := hA x
  have h2 := hA y
  rw [hx] at h1
  rw [hy] at h2
  unfold aggEq at h
  split at h
  · obtain ⟨b, h3, rfl⟩ := Option.map_eq_some_iff.1 h
    obtain ⟨X, Y, e1, e2, e3, e4⟩ := aggEqB_run h1 h2 h3
    refine .same hI (v := .bool b) ?_ (.v _)
    simp only [execOp, ho, e1, e2, Sem.run_bind, run_eqGuard_agg w _ _ _ _ _ _ e4, Result.andThen_ok, run_eql_struct, e3, Sem.run_pure]
  · obtain ⟨b, h3, rfl⟩ := Option.map_eq_some_iff.1 h
    obtain ⟨X, Y, e1, e2, e3, e4⟩ := aggEqB_run h1 h2 h3
    refine .same hI (v := .bool !b) ?_ (.v _)
    simp only [execOp, ho, e1, e2, Sem.run_bind, run_eqGuard_agg w _ _ _ _ _ _ e4, Result.andThen_ok, run_neq_struct, e3, Sem.run_pure]
  · cases h

/-! ### Clearing -/
def aclear (P : Program) (t : TypeId) (H : List Box) (x : AV) : Option (AV × List Box) :=
  match elemTy P t, x with
  | some e, .sl b g off n sz _ => match H[b]?, zeroCs P e with
    | some bx, some z => if bx.gen = g ∧ sz = P.cellsOf e ∧ off + n * sz ≤ bx.cells.length ∧ bx.ro ≤ off ∧ z.length = sz ∧ 0 < n then
        some (.v undef, H.set b ⟨splice bx.cells off (flat (List.replicate n z)), bx.ro, bx.gen, bx.grow⟩) else none
    | _, _ => none
  | _, _ => none
theorem does_clear (hI : Inv base w H β) (hA : ∀ x, Rep w H β (A x) (ρ x)) {t : TypeId} {x : Operand} (ho : o.op = .call { callee := .builtin .clear, args := #[x], argTypes := #[t] }) {r : AV} {H' : List Box} (h : aclear P t H (A x) = some (r, H')) : Does P ρ o base w H β r H' := by
  have hs := hA x
  have key : ∀ w', (Builtin.clear_ #[t] o.type #[ρ x]).run P w = .ok undef w' → (execOp ρ o).run P w = .ok (.value undef) w' := fun w' hv => by
    simp [execOp, ho, resolve, invoke, builtin, hv]
  unfold aclear at h
  split at h
  · rename_i e b g off n sz full he hAs
    obtain ⟨hu, d, hd⟩ := elemTy_spec he
    rw [hAs] at hs
    split at h
    · rename_i bx z hb hz
      split at h
      · rename_i hc
        obtain ⟨hg, hsz, hfit, hro, hzl, h0⟩ := hc
        injection h with h
        injection h with e1 e2
        subst e1; subst e2
        obtain ⟨bx', d1, d2, a, cap, hv, e4, e5, e6⟩ := live_sl (by simp [live, hb, hg]) hs
        rw [hb] at d1
        obtain rfl := Option.some.inj d1
        obtain ⟨k, st, c, et, fr, f3, f4, f5, f6⟩ := e6 (by omega)
        subst f4
        obtain ⟨i0, zv, hi, hiz, hsz', hby, z2, z3⟩ := zero_full hz
        have hzsz : zv.cells.size = sz := by
          have := congrArg List.length z2
          simp at this
          omega
        have hrep : ∀ (i : Nat) (g : List AV), (List.replicate n z)[i]? = some g → g.length = sz := fun i g hg => by
          rw [List.getElem?_replicate] at hg
          split at hg
          · injection hg with hg; rw [← hg]; exact hzl
          · cases hg
        have hfl := flat_length hrep
        simp only [List.length_replicate] at hfl
        have hvl : ((Builtin.zeroCells zv.cells n).toList).length = (flat (List.replicate n z)).length := by
          rw [hfl, Array.length_toList, zeroCells_size, hzsz]
        have hval : ∀ j, j < n * sz → ∃ k : Nat, ∃ hk : k < zv.cells.size, (Builtin.zeroCells zv.cells n).toList[j]? = some zv.cells[k] ∧ k = j % sz := fun j hj => by
          have hpos : 0 < sz := by
            rcases Nat.eq_zero_or_pos sz with h | h
            · subst h; simp at hj
            · exact h
          have hk : j % sz < zv.cells.size := by rw [hzsz]; exact Nat.mod_lt _ hpos
          refine ⟨j % sz, hk, ?_, rfl⟩
          rw [Array.getElem?_toList, Builtin.zeroCells, Array.getElem?_map, Array.getElem?_range, if_pos (by rw [hzsz]; exact hj), Option.map_some, hzsz, getElem!_pos zv.cells _ hk]
        obtain ⟨r1, r2, r3⟩ := write_box (P := P) (o' := off) hI hb f3 (flat (List.replicate n z)) (Builtin.zeroCells zv.cells n).toList hvl (fun i d y hd hy => by
            obtain ⟨i', k', g', q1, q2, rfl⟩ := flat_get hrep i d hd
            rw [List.getElem?_replicate] at q1
            split at q1
            · rename_i hil
              injection q1 with q1
              subst q1
              have hkl := (List.getElem?_eq_some_iff.1 q2).1
              have hlt : i' * sz + k' < n * sz := by
                have : (i' + 1) * sz ≤ n * sz := Nat.mul_le_mul_right _ (by omega)
                rw [Nat.add_mul] at this
                omega
              obtain ⟨k2, hk2, h7, h8⟩ := hval _ hlt
              rw [h7] at hy
              have hmod : (i' * sz + k') % sz = k' := by rw [Nat.mul_comm, Nat.mul_add_mod]; exact Nat.mod_eq_of_lt (by omega)
              rw [hmod] at h8
              subst h8
              rw [z2] at q2
              simp only [List.getElem?_map, Array.getElem?_toList, Array.getElem?_eq_getElem hk2, Option.map_some, Option.some.injEq] at q2 hy
              rw [← q2, ← hy]
              exact rep_zcell _
            · cases q1) (fun v hv => by
            obtain ⟨j, hj⟩ := List.mem_iff_getElem?.1 hv
            have hjl := (List.getElem?_eq_some_iff.1 hj).1
            rw [hvl, hfl] at hjl
            obtain ⟨k2, hk2, h7, _⟩ := hval j hjl
            rw [hj] at h7
            injection h7 with h7
            rw [h7]
            exact z3 k2 _ (Array.getElem?_eq_getElem hk2)) hro (by omega)
        refine ⟨undef, _, β, .inl (key _ ?_), r2, r3, .v _⟩
        rw [hv]
        have hn0 : ¬ n = 0 := by omega
        obtain ⟨n', rfl⟩ : ∃ n', n = n' + 1 := ⟨n - 1, by omega⟩
        simp [Builtin.clear_, run_underlying hu, zeroValue, typeInfo, hi, hiz, r1, undef]
      · cases h
    · cases h
  · cases h
end

end Go.Proofs.YtnlmdeeadldgmaaGreatDoor.VL

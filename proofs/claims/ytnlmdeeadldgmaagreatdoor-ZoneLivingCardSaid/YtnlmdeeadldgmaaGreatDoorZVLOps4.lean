/- The value logic, part 5: conversions between text and bytes, len, min, max, append, copy, make. -/
import Derived.Test.YtnlmdeeadldgmaaGreatDoorZVLOps3
import Derived.Lib.ConvBytes
import Derived.Laws.BytesArg
set_option linter.unusedVariables false
set_option linter.unusedSimpArgs false
namespace Go.Proofs.YtnlmdeeadldgmaaGreatDoor.VL
open Go Go.RowKit Go.Lib

section ops
variable {P : Program} {ρ : Operand → Value} {A : Operand → AV} {o : Oper} {base : Nat} {w : World} {H : List Box} {β : Pl}

theorem bytesOf_get : ∀ (gs : List (List AV)) (bs : List UInt8), bytesOf gs = some bs → ∃ xs : List Int, gs = xs.map (fun n => [AV.v (.int .u8 n)]) ∧ bs = xs.map fun n => UInt8.ofNat n.toNat := by
  intro gs
  induction gs with
  | nil => intro bs h; simp [bytesOf] at h; exact ⟨[], rfl, by simp [h]⟩
  | cons g r ih =>
    intro bs h
    unfold bytesOf at h
    split at h
    · rename_i heq; cases heq
    · rename_i n r' heq
      injection heq with e1 e2
      subst e1; subst e2
      obtain ⟨bs', h1, rfl⟩ := Option.map_eq_some_iff.1 h
      obtain ⟨xs, rfl, rfl⟩ := ih _ h1
      exact ⟨n :: xs, rfl, rfl⟩
    · cases h

theorem does_convert (hI : Inv base w H β) (hA : ∀ x, Rep w H β (A x) (ρ x)) {src dst : TypeId} {x : Operand} (ho : o.op = .convert src dst x) {r : AV} (h : aconv P src dst (A x) = some r) : Does P ρ o base w H β r H := by
  have hx := hA x
  unfold aconv at h
  split at h
  · rename_i d k k' n hs hd hAx
    rw [hAx] at hx
    generalize hv : ρ x = v at hx
    cases hx
    injection h with h
    subst h
    exact .same hI (by simp only [execOp, ho, hv, Sem.run_bind, convert, run_underlying hs, run_underlying hd, Result.andThen_ok, Conv.intToInt, Sem.run_pure]) (.v _)
  · rename_i d s hs hd hAx
    rw [hAx] at hx
    generalize hv : ρ x = v at hx
    cases hx
    injection h with h
    subst h
    exact .same hI (by simp only [execOp, ho, hv, Sem.run_bind, convert, run_underlying hs, run_underlying hd, Result.andThen_ok, Sem.run_pure]) (.v _)
  · rename_i e hs hd hAx
    rw [hAx] at hx
    split at h
    · rename_i he
      generalize hv : ρ x = v at hx
      cases hx with
      | emp a =>
        injection h with h
        subst h
        cases a with
        | none =>
          have := run_convert_bytes_nil (P := P) w src e hs he 0 0 dst hd
          exact .same hI (v := .string ⟨#[]⟩) (by simp only [execOp, ho, hv, Sem.run_bind, this, Result.andThen_ok, Sem.run_pure]; rfl) (.v _)
        | some a =>
          obtain ⟨k, s, sp⟩ := a
          have : (convert src dst (.slice (some ⟨k, s, sp⟩) 0 0)).run P w = .ok (.string ⟨#[]⟩) w := by
            rw [run_convert_bytes_string w src dst e _ 0 0 hs he hd]
            simp [Conv.bytesToString, loadCells, loadCellsFrom]
            rfl
          exact .same hI (v := .string ⟨#[]⟩) (by simp only [execOp, ho, hv, Sem.run_bind, this, Result.andThen_ok, Sem.run_pure]) (.v _)
    · cases h
  · rename_i e gs hs hd hAx
    rw [hAx] at hx
    split at h
    · rename_i he
      obtain ⟨bs, h1, rfl⟩ := Option.map_eq_some_iff.1 h
      obtain ⟨xs, rfl, rfl⟩ := bytesOf_get gs bs h1
      generalize hv : ρ x = v at hx
      generalize hgs : xs.map (fun n => [AV.v (.int .u8 n)]) = gs at hx
      cases hx with
      | lst0 _ a cap =>
        obtain rfl : xs = [] := by cases xs with | nil => rfl | cons _ _ => simp at hgs
        have : (convert src dst (.slice a 0 cap)).run P w = .ok (.string ⟨#[]⟩) w := by
          rw [run_convert_bytes_string w src dst e _ 0 cap hs he hd]
          cases a with
          | none => simp [Conv.bytesToString]; rfl
          | some a => simp [Conv.bytesToString, loadCells, loadCellsFrom]; rfl
        exact .same hI (v := .string ⟨#[]⟩) (by simp only [execOp, ho, hv, Sem.run_bind, this, Result.andThen_ok, Sem.run_pure]) (.v _)
      | lst _ _ k s cap y hn hg hc hr =>
        subst hgs
        have hcell : ∀ i, i < xs.length → w.cell? ⟨k, s + i, none⟩ = some (.int .u8 (xs.getD i 0)) := fun i hi => by
          have hgi : (xs.map fun n => [AV.v (.int .u8 n)])[i]? = some [AV.v (.int .u8 xs[i])] := by simp [hi]
          have h1 := (hc i 0 _ _ hgi rfl).1
          have h2 := hr i 0 _ _ hgi rfl
          generalize hy : y i 0 = z at h2 h1
          cases h2
          simpa [hi] using h1
        have := run_convert_bytes_arg (P := P) w src e hs he k s (xs.map fun n => [AV.v (.int .u8 n)]).length cap xs (by simp) (fun i hi => hcell i (by simpa using hi)) dst hd
        exact .same hI (v := .string (strOfNums xs)) (by simp only [execOp, ho, hv, Sem.run_bind, this, Result.andThen_ok, Sem.run_pure]) (.v _)
    · cases h
  · rename_i e s hs hd hAx
    rw [hAx] at hx
    split at h
    · rename_i he
      split at h
      · rename_i hlen
        injection h with h
        subst h
        generalize hv : ρ x = v at hx
        cases hx
        have hrun := run_convert_string_bytes (P := P) w src dst e s hs hd he
        have hk : ∀ k x, k < w.heap.size → (bytesWorld w e s).cell? ⟨k, x, none⟩ = w.cell? ⟨k, x, none⟩ := fun k x hk => bytesWorld_old w e s ⟨k, x, none⟩ hk
        have hw : Wor w (bytesWorld w e s) := ⟨rfl, rfl, rfl, by rw [bytesWorld_size]; omega, fun k c e' fr hh => ⟨c, by rw [bytesWorld_at_old w e s k (Array.getElem?_eq_some_iff.1 hh).1]; exact hh, rfl⟩, fun k o hh _ => by rw [bytesWorld_at_old w e s k (Array.getElem?_eq_some_iff.1 hh).1]; exact hh⟩
        obtain ⟨i1, i2⟩ := still hI hw hk
        have hl : (bytesG s.data.toList).length = s.size := by simp [bytesG]
        have hcap : s.size ≤ grownCap w s.size 0 e := Nat.le_add_right _ _
        have hget : ∀ (i j : Nat) (g : List AV) (c : AV), (bytesG s.data.toList)[i]? = some g → g[j]? = some c → i < s.size ∧ j = 0 ∧ c = .v (.int .u8 (s.data.toList.getD i 0).toNat) := fun i j g c hi hj => by
          have hil := (List.getElem?_eq_some_iff.1 hi).1
          rw [hl] at hil
          have hil' : i < s.data.toList.length := by simpa using hil
          simp only [bytesG, List.getElem?_map, List.getElem?_eq_getElem hil', Option.map_some, Option.some.injEq] at hi
          subst hi
          cases j with
          | zero => simp at hj; exact ⟨hil, rfl, by rw [← hj, List.getD_eq_getElem?_getD, List.getElem?_eq_getElem hil']; rfl⟩
          | succ j => simp at hj
        refine ⟨.slice (some ⟨w.heap.size, 0, none⟩) s.size (grownCap w s.size 0 e), bytesWorld w e s, β, .inl ?_, i1, i2, ?_⟩
        · simp only [execOp, ho, hv, Sem.run_bind, hrun, Result.andThen_ok, Sem.run_pure]
        · have := Rep.lst (w := bytesWorld w e s) (H := H) (β := β) 1 (bytesG s.data.toList) w.heap.size 0 (grownCap w s.size 0 e) (fun i j => .int .u8 (s.data.toList.getD i 0).toNat) (by omega)
            (fun i g hi => by
              have hil := (List.getElem?_eq_some_iff.1 hi).1
              simp only [bytesG, List.length_map] at hil
              simp only [bytesG, List.getElem?_map, List.getElem?_eq_getElem hil, Option.map_some, Option.some.injEq] at hi
              rw [← hi]; rfl)
            (fun i j g c hi hj => by
              obtain ⟨h1, rfl, rfl⟩ := hget i j g c hi hj
              refine ⟨by rw [show 0 + i * 1 + 0 = i by omega]; exact bytesWorld_cell w e s i h1, rfl, ?_⟩
              rintro ⟨i', bx, s', a1, a2, _⟩
              have := (hI.real i' bx _ s' a1 a2).2
              omega)
            (fun i j g c hi hj => by
              obtain ⟨h1, rfl, rfl⟩ := hget i j g c hi hj
              exact .v _)
          rwa [hl] at this
      · cases h
    · cases h
  · cases h
/-! ### The built-in functions on numbers -/
def alen (P : Program) (t : TypeId) (H : List Box) (x : AV) : Option AV :=
  match P.underlying t, x with
  | some .string, .v (.string s) => some (.v (.int .i64 s.size))
  | some (.array n _), _ => some (.v (.int .i64 n))
  | some (.slice _), .lst _ gs => some (.v (.int .i64 gs.length))
  | some (.slice _), .emp => some (.v (.int .i64 0))
  | some (.slice _), .sl b g _ n _ _ => if live H b g then some (.v (.int .i64 n)) else none
  | _, _ => none
theorem does_len (hI : Inv base w H β) (hA : ∀ x, Rep w H β (A x) (ρ x)) {t : TypeId} {x : Operand} (ho : o.op = .call { callee := .builtin .len, args := #[x], argTypes := #[t] }) {r : AV} (h : alen P t H (A x) = some r) : Does P ρ o base w H β r H := by
  have hx := hA x
  have key : ∀ n : Nat, (Builtin.len_ #[t] o.type #[ρ x]).run P w = .ok (goInt n) w → Does P ρ o base w H β (.v (.int .i64 n)) H := fun n hn =>
    .same hI (v := .int .i64 n) (by simp [execOp, ho, resolve, invoke, builtin, hn]; rfl) (.v _)
  unfold alen at h
  split at h
  · rename_i s hu hAx
    rw [hAx] at hx
    injection h with h
    subst h
    generalize hv : ρ x = v at hx
    cases hx
    exact key _ (by rw [hv]; simp [Builtin.len_, run_underlying hu])
  · rename_i n e y hu
    injection h with h
    subst h
    refine key _ ?_
    simp [Builtin.len_, run_underlying hu]
  · rename_i e sz gs hu hAx
    rw [hAx] at hx
    injection h with h
    subst h
    generalize hv : ρ x = v at hx
    cases hx with
    | lst0 => exact key 0 (by rw [hv]; simp [Builtin.len_, run_underlying hu])
    | lst => exact key _ (by rw [hv]; simp [Builtin.len_, run_underlying hu])
  · rename_i e hu hAx
    rw [hAx] at hx
    injection h with h
    subst h
    generalize hv : ρ x = v at hx
    cases hx with
    | emp a => exact key 0 (by rw [hv]; simp [Builtin.len_, run_underlying hu])
  · rename_i e b g off n sz full hu hAx
    rw [hAx] at hx
    split at h
    · rename_i hl
      injection h with h
      subst h
      obtain ⟨bx, e1, e2, a, cap, hv, _⟩ := live_sl hl hx
      exact key _ (by rw [hv]; simp [Builtin.len_, run_underlying hu])
    · cases h
  · cases h

def amin (x y : AV) : Option AV := match x, y with | .v (.int k a), .v (.int k' b) => if k = k' then some (.v (.int k (if b < a then b else a))) else none | _, _ => none
def amax (x y : AV) : Option AV := match x, y with | .v (.int k a), .v (.int k' b) => if k = k' then some (.v (.int k (if a < b then b else a))) else none | _, _ => none
theorem does_min (hI : Inv base w H β) (hA : ∀ x, Rep w H β (A x) (ρ x)) {ts : Array TypeId} {x y : Operand} (ho : o.op = .call { callee := .builtin .min, args := #[x, y], argTypes := ts }) {r : AV} (h : amin (A x) (A y) = some r) : Does P ρ o base w H β r H := by
  have hx := hA x
  have hy := hA y
  unfold amin at h
  split at h
  · rename_i k a k' b hAx hAy
    rw [hAx] at hx
    rw [hAy] at hy
    generalize hvx : ρ x = vx at hx
    generalize hvy : ρ y = vy at hy
    cases hx
    cases hy
    split at h
    · injection h with h
      subst h
      refine .same hI (v := .int k (if b < a then b else a)) ?_ (.v _)
      simp [execOp, ho, resolve, invoke, builtin, Builtin.min_, Builtin.min2, hvx, hvy]
    · cases h
  · cases h
theorem does_max (hI : Inv base w H β) (hA : ∀ x, Rep w H β (A x) (ρ x)) {ts : Array TypeId} {x y : Operand} (ho : o.op = .call { callee := .builtin .max, args := #[x, y], argTypes := ts }) {r : AV} (h : amax (A x) (A y) = some r) : Does P ρ o base w H β r H := by
  have hx := hA x
  have hy := hA y
  unfold amax at h
  split at h
  · rename_i k a k' b hAx hAy
    rw [hAx] at hx
    rw [hAy] at hy
    generalize hvx : ρ x = vx at hx
    generalize hvy : ρ y = vy at hy
    cases hx
    cases hy
    split at h
    · injection h with h
      subst h
      refine .same hI (v := .int k (if a < b then b else a)) ?_ (.v _)
      simp [execOp, ho, resolve, invoke, builtin, Builtin.max_, Builtin.max2, hvx, hvy]
    · cases h
  · cases h

/-! ### What is read of a slice or a text, as rows -/
def asrc (sz : Nat) (H : List Box) : AV → Option (List (List AV))
  | .lst s gs => if s = sz then some gs else none
  | .emp => some []
  | .sl b g off n s _ => match H[b]? with
    | some bx => if bx.gen = g ∧ s = sz ∧ off + n * sz ≤ bx.cells.length then some (chunk sz n (bx.cells.drop off)) else none
    | none => none
  | .v (.string s) => if sz = 1 then some (bytesG s.data.toList) else none
  | _ => none

/-- Values that rows say. -/
def Rows' (w : World) (H : List Box) (β : Pl) (sz : Nat) (gs : List (List AV)) (vs : List Value) : Prop :=
  vs.length = gs.length * sz ∧ (∀ v ∈ vs, v.oneCell' = true) ∧ (∀ (i : Nat) (g : List AV), gs[i]? = some g → g.length = sz) ∧ ∀ (i j : Nat) (g : List AV) (c : AV), gs[i]? = some g → g[j]? = some c → ∃ y, vs[i * sz + j]? = some y ∧ Rep w H β c y

theorem bytes_get {bs : List UInt8} {i : Nat} {g : List AV} (h : (bytesG bs)[i]? = some g) : ∃ b, bs[i]? = some b ∧ g = [.v (.int .u8 b.toNat)] := by
  simp only [bytesG, List.getElem?_map] at h
  obtain ⟨b, h1, h2⟩ := Option.map_eq_some_iff.1 h
  exact ⟨b, h1, h2.symm⟩

theorem firstCells_some (w : World) (k s n cap sz len : Nat) (f : Nat → Value) (h : ∀ j, j < n * sz → w.cell? ⟨k, s + j, none⟩ = some (f j)) :
    (Builtin.firstCells sz n (.slice (some ⟨k, s, none⟩) len cap)).run P w = .ok ((List.range (n * sz)).map f).toArray w := by
  simp only [Builtin.firstCells]
  exact run_loadCells w _ _ f (fun j hj => by rw [add_plain]; exact h j hj)

theorem src_run {x : AV} {v : Value} {sz : Nat} {gs : List (List AV)} (hI : Inv base w H β) (hx : Rep w H β x v) (h : asrc sz H x = some gs) :
    (∀ w', (Builtin.lenOf v).run P w' = .ok gs.length w') ∧ ∃ vs, Rows' w H β sz gs vs ∧ ∀ w' : World, (∀ k x, k < w.heap.size → w'.cell? ⟨k, x, none⟩ = w.cell? ⟨k, x, none⟩) → (Builtin.firstCells sz gs.length v).run P w' = .ok vs.toArray w' := by
  unfold asrc at h
  split at h
  · rename_i s gs'
    split at h
    · rename_i hs
      subst hs
      injection h with h
      subst h
      cases hx with
      | lst0 _ a cap =>
        refine ⟨fun _ => rfl, [], ⟨by simp, by simp, by simp, by simp⟩, fun w' _ => ?_⟩
        cases a <;> simp [Builtin.firstCells, loadCells, loadCellsFrom]
      | lst _ _ k st cap y hn hg hc hr =>
        refine ⟨fun _ => rfl, (List.range (gs'.length * s)).map (fun j => y (j / s) (j % s)), ⟨by simp, ?_, hg, ?_⟩, fun w' hk => ?_⟩
        · intro v hv
          simp only [List.mem_map, List.mem_range] at hv
          obtain ⟨j, hj, rfl⟩ := hv
          have hs : 0 < s := by
            rcases Nat.eq_zero_or_pos s with h0 | h0
            · subst h0; simp at hj
            · exact h0
          have hd : j / s < gs'.length := (Nat.div_lt_iff_lt_mul hs).2 hj
          have hm : j % s < s := Nat.mod_lt _ hs
          have hgl := hg _ _ (List.getElem?_eq_getElem hd)
          exact (hc (j / s) (j % s) _ _ (List.getElem?_eq_getElem hd) (List.getElem?_eq_getElem (by omega))).2.1
        · intro i j g c hi hj
          have hil := (List.getElem?_eq_some_iff.1 hi).1
          have hjl := (List.getElem?_eq_some_iff.1 hj).1
          have hgl := hg i g hi
          have hlt : i * s + j < gs'.length * s := by
            have : (i + 1) * s ≤ gs'.length * s := Nat.mul_le_mul_right _ hil
            rw [Nat.add_mul] at this
            omega
          refine ⟨y i j, ?_, hr i j g c hi hj⟩
          have h1 : (i * s + j) / s = i := by rw [Nat.mul_comm, Nat.mul_add_div (by omega)]; rw [Nat.div_eq_of_lt (by omega)]; omega
          have h2 : (i * s + j) % s = j := by rw [Nat.mul_comm, Nat.mul_add_mod]; exact Nat.mod_eq_of_lt (by omega)
          simp [hlt, h1, h2]
        · refine firstCells_some w' k st gs'.length cap s _ _ fun j hj => ?_
          have hs : 0 < s := by
            rcases Nat.eq_zero_or_pos s with h0 | h0
            · subst h0; simp at hj
            · exact h0
          have hd : j / s < gs'.length := (Nat.div_lt_iff_lt_mul hs).2 hj
          have hm : j % s < s := Nat.mod_lt _ hs
          have hgl := hg _ _ (List.getElem?_eq_getElem hd)
          have hcell := (hc (j / s) (j % s) _ _ (List.getElem?_eq_getElem hd) (List.getElem?_eq_getElem (by omega))).1
          have e : st + j / s * s + j % s = st + j := by have := Nat.div_add_mod j s; rw [Nat.mul_comm] at this; omega
          rw [e] at hcell
          rw [hk k _ (cell_lt hcell)]
          exact hcell
    · cases h
  · injection h with h
    subst h
    cases hx with
    | emp a =>
      refine ⟨fun _ => rfl, [], ⟨by simp, by simp, by simp, by simp⟩, fun w' _ => ?_⟩
      cases a <;> simp [Builtin.firstCells, loadCells, loadCellsFrom]
  · rename_i b g off n s full
    split at h
    · rename_i bx hb
      split at h
      · rename_i hc
        obtain ⟨hg, rfl, hfit⟩ := hc
        injection h with h
        subst h
        obtain ⟨bx', e1, e2, a, cap, rfl, e4, e5, e6⟩ := live_sl (by simp [live, hb, hg]) hx
        rw [hb] at e1
        obtain rfl := Option.some.inj e1
        refine ⟨fun _ => by rw [chunk_length]; rfl, ?_⟩
        rw [chunk_length]
        by_cases hn0 : n = 0
        · subst hn0
          refine ⟨[], ⟨by simp [chunk], by simp, by simp [chunk], by simp [chunk]⟩, fun w' _ => ?_⟩
          cases a <;> simp [Builtin.firstCells, loadCells, loadCellsFrom]
        · obtain ⟨k, st, c, et, fr, f1, f2, f3, f4⟩ := e6 (by omega)
          subst f2
          have hcell : ∀ j, j < n * s → ∃ x, w.cell? ⟨k, st + off + j, none⟩ = some x ∧ x.oneCell' = true ∧ Rep w H β (bx.cells.getD (off + j) .dead) x := fun j hj => by
            obtain ⟨x, h1, h2, h3⟩ := hI.cells b bx k st hb f1 (off + j) _ (List.getElem?_eq_getElem (by omega))
            refine ⟨x, by rw [Nat.add_assoc]; exact h1, h2, ?_⟩
            rw [List.getD_eq_getElem?_getD, List.getElem?_eq_getElem (by omega)]
            exact h3
          let f : Nat → Value := fun j => (w.cell? ⟨k, st + off + j, none⟩).getD undef
          have hf : ∀ j, j < n * s → w.cell? ⟨k, st + off + j, none⟩ = some (f j) := fun j hj => by
            obtain ⟨x, h1, _⟩ := hcell j hj
            simp only [f, h1, Option.getD_some]
          refine ⟨(List.range (n * s)).map f, ⟨by simp [chunk_length], ?_, ?_, ?_⟩, fun w' hk => firstCells_some w' k (st + off) n cap s n f fun j hj => ?_⟩
          · intro v hv
            simp only [List.mem_map, List.mem_range] at hv
            obtain ⟨j, hj, rfl⟩ := hv
            obtain ⟨x, h1, h2, _⟩ := hcell j hj
            simp only [f, h1, Option.getD_some]
            exact h2
          · intro i g hi
            obtain ⟨h1, rfl⟩ := chunk_get _ _ _ _ _ hi
            simp only [List.length_take, List.length_drop]
            have : (i + 1) * s ≤ n * s := Nat.mul_le_mul_right _ h1
            rw [Nat.add_mul] at this
            omega
          · intro i j g c hi hj
            obtain ⟨h1, rfl⟩ := chunk_get _ _ _ _ _ hi
            have hjl := (List.getElem?_eq_some_iff.1 hj).1
            simp only [List.length_take] at hjl
            have : (i + 1) * s ≤ n * s := Nat.mul_le_mul_right _ h1
            rw [Nat.add_mul] at this
            have hlt : i * s + j < n * s := by omega
            obtain ⟨x, g1, g2, g3⟩ := hcell (i * s + j) hlt
            refine ⟨x, ?_, ?_⟩
            · simp only [List.getElem?_map, List.getElem?_range hlt, Option.map_some, f, g1, Option.getD_some]
            · rw [List.getElem?_take_of_lt (by omega), List.getElem?_drop, List.getElem?_drop] at hj
              rw [List.getD_eq_getElem?_getD, hj] at g3
              exact g3
          · have := hf j hj
            rw [hk k _ (cell_lt this)]
            exact this
      · cases h
    · cases h
  · rename_i s
    split at h
    · rename_i hsz
      subst hsz
      injection h with h
      subst h
      cases hx
      have hl : (bytesG s.data.toList).length = s.size := by simp [bytesG]
      refine ⟨fun _ => by rw [hl]; rfl, (s.data.map fun b => Value.int .u8 b.toNat).toList, ⟨by simp [bytesG], ?_, ?_, ?_⟩, fun w' _ => ?_⟩
      · intro v hv
        simp only [Array.toList_map, List.mem_map] at hv
        obtain ⟨b, _, rfl⟩ := hv
        rfl
      · intro i g hi
        obtain ⟨b, _, rfl⟩ := bytes_get hi
        rfl
      · intro i j g c hi hj
        obtain ⟨b, h1, rfl⟩ := bytes_get hi
        cases j with
        | zero =>
          simp at hj
          subst hj
          exact ⟨.int .u8 b.toNat, by simp [Array.getElem?_toList] at h1 ⊢; exact ⟨b, h1, rfl⟩, .v _⟩
        | succ j => simp at hj
      · rw [hl]
        have : s.extract 0 s.size = s := by simp
        simp only [Builtin.firstCells, this, Sem.run_pure, Array.toList_map, ← List.map_toArray]
    · cases h
  · cases h

end ops
end Go.Proofs.YtnlmdeeadldgmaaGreatDoor.VL

/- The value logic, part 4: slices, arithmetic, conversions, the built-in functions. -/
import Derived.Test.YtnlmdeeadldgmaaGreatDoorZVLOps2
set_option linter.unusedVariables false
set_option linter.unusedSimpArgs false
namespace Go.Proofs.YtnlmdeeadldgmaaGreatDoor.VL
open Go Go.RowKit

section ops
variable {P : Program} {ρ : Operand → Value} {A : Operand → AV} {o : Oper} {base : Nat} {w : World} {H : List Box} {β : Pl}

/-! ### Slices -/
def abnd (x : Option AV) (d top : Nat) : Option Nat :=
  match x with
  | none => some d
  | some (.v (.int _ i)) => if 0 ≤ i ∧ i ≤ top then some i.toNat else none
  | _ => none
theorem run_bound {x : Operand} {ik : IntKind} {i : Int} {top cap : Nat} (code : BoundsCode) (hx : ρ x = .int ik i) (h0 : 0 ≤ i) (h1 : i ≤ top) (hc : top ≤ cap) :
    (Instr.sliceBound (ρ x) cap code).run P w = .ok i.toNat w := by
  have : 0 ≤ i ∧ i ≤ cap := ⟨h0, by omega⟩
  simp [Instr.sliceBound, hx, asIntOf, this]
theorem abnd_int (hA : ∀ x, Rep w H β (A x) (ρ x)) {x : Option Operand} {d top n : Nat} (h : abnd (x.map A) d top = some n) :
    (x = none ∧ n = d) ∨ ∃ y ik i, x = some y ∧ ρ y = .int ik i ∧ 0 ≤ i ∧ i ≤ top ∧ n = i.toNat := by
  cases x with
  | none => simp [abnd] at h; exact .inl ⟨rfl, h.symm⟩
  | some y =>
    simp only [abnd, Option.map_some] at h
    split at h
    · rename_i heq; cases heq
    · rename_i ik i heq
      injection heq with heq
      split at h
      · rename_i hc
        injection h with h
        have := hA y
        rw [heq] at this
        generalize hv : ρ y = v at this
        cases this
        exact .inr ⟨y, ik, i, rfl, hv, hc.1, hc.2, h.symm⟩
      · cases h
    · cases h

/-- A slice expression's bounds: h within top, l within h; top within the capacity. -/
theorem run_bounds (hA : ∀ x, Rep w H β (A x) (ρ x)) {lo hi : Option Operand} {len cap l h : Nat} (isS : Bool) (hc : len ≤ cap) (h1 : abnd (hi.map A) len len = some h) (h2 : abnd (lo.map A) 0 h = some l) :
    (Instr.sliceBounds isS len cap (lo.map ρ) (hi.map ρ) none).run P w = .ok (l, h, cap) w ∧ l ≤ h ∧ h ≤ len := by
  have hh : h ≤ len ∧ ∀ code, (match hi.map ρ with | some v => Instr.sliceBound v cap code | none => pure len : Sem Nat).run P w = .ok h w := by
    rcases abnd_int hA h1 with ⟨rfl, rfl⟩ | ⟨y, ik, i, rfl, e1, e2, e3, rfl⟩
    · exact ⟨Nat.le_refl _, fun _ => rfl⟩
    · exact ⟨by omega, fun code => run_bound code e1 e2 e3 hc⟩
  have hl : l ≤ h ∧ ∀ code, (match lo.map ρ with | some v => Instr.sliceBound v h code | none => pure 0 : Sem Nat).run P w = .ok l w := by
    rcases abnd_int hA h2 with ⟨rfl, rfl⟩ | ⟨y, ik, i, rfl, e1, e2, e3, rfl⟩
    · exact ⟨Nat.zero_le _, fun _ => rfl⟩
    · exact ⟨by omega, fun code => run_bound code e1 e2 e3 (Nat.le_refl _)⟩
  refine ⟨?_, hl.1, hh.1⟩
  unfold Instr.sliceBounds
  cases hi with
  | none =>
    have h3 := hh.2 .sliceB
    simp only [Option.map_none] at h3 ⊢
    have h4 := hl.2 .sliceB
    cases lo with
    | none => simp at h3 h4 ⊢; exact ⟨h4, h3⟩
    | some y => simp at h3 h4 ⊢; subst h3; simp [h4]
  | some y =>
    have h3 := hh.2 (if isS then .sliceAcap else .sliceAlen)
    simp only [Option.map_some] at h3 ⊢
    have h4 := hl.2 .sliceB
    cases lo with
    | none => simp at h3 h4 ⊢; simp [h3, h4]
    | some z => simp at h3 h4 ⊢; simp [h3, h4]

theorem run_bounds3 (hA : ∀ x, Rep w H β (A x) (ρ x)) {lo : Option Operand} {hi mx : Operand} {len cap l h m : Nat} (isS : Bool) (hc : len ≤ cap) (h0 : abnd (some (A mx)) 0 len = some m) (h1 : abnd (some (A hi)) 0 m = some h) (h2 : abnd (lo.map A) 0 h = some l) :
    (Instr.sliceBounds isS len cap (lo.map ρ) (some (ρ hi)) (some (ρ mx))).run P w = .ok (l, h, m) w ∧ l ≤ h ∧ h ≤ m ∧ m ≤ len := by
  rcases abnd_int (x := some mx) hA h0 with ⟨hh, _⟩ | ⟨ym, ikm, im, em, e1, e2, e3, rfl⟩
  · cases hh
  injection em with em
  subst em
  rcases abnd_int (x := some hi) hA h1 with ⟨hh, _⟩ | ⟨yh, ikh, ih, eh, f1, f2, f3, rfl⟩
  · cases hh
  injection eh with eh
  subst eh
  have b1 := fun code => run_bound (P := P) (w := w) code e1 e2 e3 hc
  have b2 := fun code => run_bound (P := P) (w := w) code f1 f2 f3 (Nat.le_refl _)
  rcases abnd_int hA h2 with ⟨rfl, rfl⟩ | ⟨y, ik, i, rfl, g1, g2, g3, rfl⟩
  · refine ⟨?_, Nat.zero_le _, by omega, by omega⟩
    unfold Instr.sliceBounds
    simp only [Option.map_none, Sem.run_bind, b1, Result.andThen_ok, b2, Sem.run_pure]
  · refine ⟨?_, by omega, by omega, by omega⟩
    have b3 := fun code => run_bound (P := P) (w := w) code g1 g2 g3 (Nat.le_refl _)
    unfold Instr.sliceBounds
    simp only [Option.map_some, Sem.run_bind, b1, Result.andThen_ok, b2, b3, Sem.run_pure]
def aslice3 (P : Program) (t : TypeId) (H : List Box) (x : AV) (lo : Option AV) (hi mx : AV) : Option AV :=
  match x with
  | .emp => match elemTy P t with
    | some e => (abnd (some mx) 0 0).bind fun m => (abnd (some hi) 0 m).bind fun h => (abnd lo 0 h).map fun l => .emp
    | none => none
  | .lst sz gs => match elemTy P t with
    | some e => (abnd (some mx) 0 gs.length).bind fun m => if m = 0 then (abnd (some hi) 0 m).bind fun h => (abnd lo 0 h).map fun l => .emp else none
    | none => none
  | .sl b g off n sz full => match elemTy P t with
    | some e => if sz = P.cellsOf e ∧ live H b g = true then (abnd (some mx) 0 n).bind fun m => (abnd (some hi) 0 m).bind fun h => (abnd lo 0 h).map fun l => .sl b g (off + l * sz) (h - l) sz (decide (h = m)) else none
    | none => none
  | _ => none
def aslice (P : Program) (t : TypeId) (H : List Box) (x : AV) (lo hi mx : Option AV) : Option AV :=
  match mx with
  | none =>
    match x with
    | .v (.string s) => match P.underlying t with
      | some .string => (abnd hi s.size s.size).bind fun h => (abnd lo 0 h).map fun l => .v (.string ⟨((s.data.toList.take h).drop l).toArray⟩)
      | _ => none
    | .emp => match elemTy P t with
      | some e => (abnd hi 0 0).bind fun h => (abnd lo 0 h).map fun l => .emp
      | none => none
    | .lst sz gs => match elemTy P t with
      | some e => if sz = P.cellsOf e then (abnd hi gs.length gs.length).bind fun h => (abnd lo 0 h).map fun l => .lst sz ((gs.take h).drop l) else none
      | none => none
    | .sl b g off n sz full => match elemTy P t with
      | some e => if sz = P.cellsOf e ∧ live H b g = true then (abnd hi n n).bind fun h => (abnd lo 0 h).map fun l => .sl b g (off + l * sz) (h - l) sz (full && decide (h = n)) else none
      | none => none
    | .ptr b g off => match arrTy P t with
      | some (n, e) => if live H b g = true ∧ P.cellsOf e ≠ 0 ∧ ((H[b]?).map fun bx => decide (off + n * P.cellsOf e ≤ bx.cells.length)) = some true then
          (abnd hi n n).bind fun h => (abnd lo 0 h).map fun l => .sl b g (off + l * P.cellsOf e) (h - l) (P.cellsOf e) (decide (h = n)) else none
      | none => none
    | _ => none
  | some m => match hi with
    | some h => aslice3 P t H x lo h m
    | none => none

theorem rep_string_slice (s : ByteArray) (l h : Nat) : (⟨((s.data.toList.take h).drop l).toArray⟩ : ByteArray) = s.extract l h := by
  apply ByteArray.ext
  rw [ByteArray.data_extract]
  apply Array.ext'
  simp [List.drop_take]

/-- A part of a slice that is only read. -/
theorem rep_lst_part {sz : Nat} {gs : List (List AV)} {a : Option Addr} {n cap l h : Nat} (hr : Rep w H β (.lst sz gs) (.slice a n cap)) (hl : l ≤ h) (hh : h ≤ n) (cap' : Nat) (hc : cap' = cap - l) :
    Rep w H β (.lst sz ((gs.take h).drop l)) (.slice (if cap = l then a else a.map (·.add (l * sz))) (h - l) cap') := by
  subst hc
  by_cases he : h - l = 0
  · have : (gs.take h).drop l = [] := by
      apply List.eq_nil_of_length_eq_zero
      simp; omega
    rw [this, he]
    exact .lst0 _ _ _
  · cases hr with
    | lst0 => omega
    | lst _ _ k s cap y hn hg hcc hrr =>
      rw [if_neg (by omega)]
      have hlen : ((gs.take h).drop l).length = h - l := by simp; omega
      rw [← hlen]
      simp only [Option.map_some, add_plain]
      have hget : ∀ (i : Nat) (g : List AV), ((gs.take h).drop l)[i]? = some g → gs[l + i]? = some g := fun i g hi => by
        rw [List.getElem?_drop] at hi
        have := (List.getElem?_eq_some_iff.1 hi).1
        rw [List.getElem?_take_of_lt (by simp at this; omega)] at hi
        exact hi
      refine .lst sz _ k (s + l * sz) (cap - l) (fun i j => y (l + i) j) (by rw [hlen]; omega) (fun i g hi => hg _ g (hget i g hi)) (fun i j g c hi hj => ?_) (fun i j g c hi hj => hrr (l + i) j g c (hget i g hi) hj)
      have := hcc (l + i) j g c (hget i g hi) hj
      have e : s + l * sz + i * sz + j = s + (l + i) * sz + j := by rw [Nat.add_mul]; omega
      rw [e]
      exact this

theorem does_slice (hI : Inv base w H β) (hA : ∀ x, Rep w H β (A x) (ρ x)) {t : TypeId} {x : Operand} {lo hi mx : Option Operand} (ho : o.op = .slice t x lo hi mx) {r : AV} (h : aslice P t H (A x) (lo.map A) (hi.map A) (mx.map A) = some r) : Does P ρ o base w H β r H := by
  have hx := hA x
  unfold aslice at h
  split at h
  · rename_i hmx
    have hmx' : mx = none := by cases mx <;> simp_all
    subst hmx'
    split at h
    · rename_i s hAx
      rw [hAx] at hx
      split at h
      · rename_i hu
        obtain ⟨hh, h1, h2⟩ := Option.bind_eq_some_iff.1 h
        obtain ⟨ll, h3, rfl⟩ := Option.map_eq_some_iff.1 h2
        generalize hv : ρ x = v at hx
        cases hx
        obtain ⟨b1, b2, b3⟩ := run_bounds (P := P) hA false (Nat.le_refl s.size) h1 h3
        rw [rep_string_slice]
        refine .same hI (v := .string (s.extract ll hh)) ?_ (.v _)
        simp only [execOp, ho, hv, Instr.sliceAt, Sem.run_bind, run_underlying hu, Result.andThen_ok, Instr.slice, Option.map_none, Option.isSome_none, Bool.false_eq_true, if_false, b1, Sem.run_pure]
      · cases h
    · rename_i hAx
      rw [hAx] at hx
      split at h
      · rename_i e he
        obtain ⟨hu, d, hd⟩ := elemTy_spec he
        obtain ⟨hh, h1, h2⟩ := Option.bind_eq_some_iff.1 h
        obtain ⟨ll, h3, rfl⟩ := Option.map_eq_some_iff.1 h2
        generalize hv : ρ x = v at hx
        cases hx with
        | emp a =>
          obtain ⟨b1, b2, b3⟩ := run_bounds (P := P) hA true (Nat.le_refl 0) h1 h3
          obtain rfl : hh = 0 := by omega
          obtain rfl : ll = 0 := by omega
          refine .same hI (v := .slice a 0 0) ?_ (.emp a)
          simp only [execOp, ho, hv, Instr.sliceAt, Sem.run_bind, run_underlying hu, Result.andThen_ok, Instr.slice, Option.map_none, b1, run_sizeOf' hd, Sem.run_pure, if_pos]
      · cases h
    · rename_i sz gs hAx
      rw [hAx] at hx
      split at h
      · rename_i e he
        obtain ⟨hu, d, hd⟩ := elemTy_spec he
        split at h
        · rename_i hsz
          obtain ⟨hh, h1, h2⟩ := Option.bind_eq_some_iff.1 h
          obtain ⟨ll, h3, rfl⟩ := Option.map_eq_some_iff.1 h2
          obtain ⟨a, cap, hv, hcap⟩ : ∃ a cap, ρ x = .slice a gs.length cap ∧ gs.length ≤ cap := by
            generalize hv : ρ x = v at hx
            cases hx with
            | lst0 _ a cap => exact ⟨a, cap, by simp, Nat.zero_le _⟩
            | lst _ _ k s cap y hn hg hc hr => exact ⟨_, cap, rfl, hn⟩
          rw [hv] at hx
          obtain ⟨b1, b2, b3⟩ := run_bounds (P := P) hA true hcap h1 h3
          refine .same hI ?_ (rep_lst_part hx b2 b3 (cap - ll) rfl)
          simp only [execOp, ho, hv, Instr.sliceAt, Sem.run_bind, run_underlying hu, Result.andThen_ok, Instr.slice, Option.map_none, b1, run_sizeOf' hd, Sem.run_pure, hsz]
        · cases h
      · cases h
    · rename_i b g off n sz full hAx
      rw [hAx] at hx
      split at h
      · rename_i e he
        obtain ⟨hu, d, hd⟩ := elemTy_spec he
        split at h
        · rename_i hc
          obtain ⟨hsz, hl⟩ := hc
          obtain ⟨hh, h1, h2⟩ := Option.bind_eq_some_iff.1 h
          obtain ⟨ll, h3, rfl⟩ := Option.map_eq_some_iff.1 h2
          obtain ⟨bx, e1, e2, a, cap, hv, e4, e5, e6⟩ := live_sl hl hx
          obtain ⟨b1, b2, b3⟩ := run_bounds (P := P) hA true e4 h1 h3
          refine .same hI (v := .slice (if cap = ll then a else a.map (·.add (ll * sz))) (hh - ll) (cap - ll)) ?_ (rep_sl e1 e2 ⟨_, _, rfl, by omega, fun hf => ?_, fun h0 => ?_⟩)
          · simp only [execOp, ho, hv, Instr.sliceAt, Sem.run_bind, run_underlying hu, Result.andThen_ok, Instr.slice, Option.map_none, b1, run_sizeOf' hd, Sem.run_pure, hsz]
          · simp only [Bool.and_eq_true, decide_eq_true_eq] at hf
            have := e5 hf.1
            omega
          · obtain ⟨k, s, c, et, fr, f1, f2, f3, f4⟩ := e6 (by omega)
            rw [if_neg (by omega)]
            refine ⟨k, s, c, et, fr, f1, by rw [f2]; simp only [Option.map_some, add_plain, Nat.add_assoc], f3, ?_⟩
            have : cap * sz = ll * sz + (cap - ll) * sz := by rw [← Nat.add_mul]; congr 1; omega
            omega
        · cases h
      · cases h
    · rename_i b g off hAx
      rw [hAx] at hx
      split at h
      · rename_i n e he
        obtain ⟨hu, d, hd⟩ := arrTy_spec he
        split at h
        · rename_i hc
          obtain ⟨hl, hz, hfit⟩ := hc
          obtain ⟨hh, h1, h2⟩ := Option.bind_eq_some_iff.1 h
          obtain ⟨ll, h3, rfl⟩ := Option.map_eq_some_iff.1 h2
          obtain ⟨bx, k, s, e1, e2, e3, hv⟩ := live_ptr hl hx
          obtain ⟨b1, b2, b3⟩ := run_bounds (P := P) hA false (Nat.le_refl n) h1 h3
          rw [e1] at hfit
          simp only [Option.map_some, Option.some.injEq, decide_eq_true_eq] at hfit
          refine .same hI (v := .slice (some (if n = ll then ⟨k, s + off, none⟩ else ⟨k, s + off + ll * P.cellsOf e, none⟩)) (hh - ll) (n - ll)) ?_ (rep_sl e1 e2 ⟨_, _, rfl, by omega, fun hf => ?_, fun h0 => ?_⟩)
          · simp only [execOp, ho, hv, Instr.sliceAt, Sem.run_bind, run_underlying hu, Result.andThen_ok, Instr.sureAddr, Option.map_none, b1, run_sizeOf' hd, Sem.run_pure, add_plain]
          · simp only [decide_eq_true_eq] at hf
            omega
          · rw [if_neg (by omega)]
            obtain ⟨g1, g2⟩ := hI.real b bx k s e1 e3
            have hpos : 0 < n * P.cellsOf e := Nat.mul_pos (by omega) (by omega)
            obtain ⟨y, hy, _, _⟩ := hI.cells b bx k s e1 e3 (off + n * P.cellsOf e - 1) _ (List.getElem?_eq_getElem (by omega))
            unfold World.cell? at hy
            dsimp only at hy
            split at hy
            · rename_i c et fr hcc
              simp at hy
              have := (Array.getElem?_eq_some_iff.1 hy).1
              refine ⟨k, s, c, et, fr, e3, by rw [Nat.add_assoc], hcc, ?_⟩
              have : n * P.cellsOf e = ll * P.cellsOf e + (n - ll) * P.cellsOf e := by rw [← Nat.add_mul]; congr 1; omega
              omega
            · cases hy
        · cases h
      · cases h
    · cases h
  · rename_i m' hm'
    split at h
    · rename_i h' hh'
      obtain ⟨ym, rfl, rfl⟩ : ∃ y, mx = some y ∧ A y = m' := by cases mx with
        | none => cases hm'
        | some y => simp at hm'; exact ⟨y, rfl, hm'⟩
      obtain ⟨yh, rfl, rfl⟩ : ∃ y, hi = some y ∧ A y = h' := by cases hi with
        | none => cases hh'
        | some y => simp at hh'; exact ⟨y, rfl, hh'⟩
      unfold aslice3 at h
      split at h
      · rename_i hAx
        rw [hAx] at hx
        split at h
        · rename_i e he
          obtain ⟨hu, d, hd⟩ := elemTy_spec he
          obtain ⟨mm, h0, h1⟩ := Option.bind_eq_some_iff.1 h
          obtain ⟨hh, h1', h2⟩ := Option.bind_eq_some_iff.1 h1
          obtain ⟨ll, h3, rfl⟩ := Option.map_eq_some_iff.1 h2
          generalize hv : ρ x = v at hx
          cases hx with
          | emp a =>
            obtain ⟨b1, b2, b3, b4⟩ := run_bounds3 (P := P) hA true (Nat.le_refl 0) h0 h1' h3
            obtain rfl : mm = 0 := by omega
            obtain rfl : hh = 0 := by omega
            obtain rfl : ll = 0 := by omega
            refine .same hI (v := .slice a 0 0) ?_ (.emp a)
            simp only [execOp, ho, hv, Instr.sliceAt, Sem.run_bind, run_underlying hu, Result.andThen_ok, Instr.slice, Option.map_some, b1, run_sizeOf' hd, Sem.run_pure, if_pos]
        · cases h
      · rename_i sz gs hAx
        rw [hAx] at hx
        split at h
        · rename_i e he
          obtain ⟨hu, d, hd⟩ := elemTy_spec he
          obtain ⟨mm, h0, h1⟩ := Option.bind_eq_some_iff.1 h
          split at h1
          · rename_i hm0
            subst hm0
            obtain ⟨hh, h1', h2⟩ := Option.bind_eq_some_iff.1 h1
            obtain ⟨ll, h3, rfl⟩ := Option.map_eq_some_iff.1 h2
            obtain ⟨a, cap, hv, hcap⟩ : ∃ a cap, ρ x = .slice a gs.length cap ∧ gs.length ≤ cap := by
              generalize hv : ρ x = v at hx
              cases hx with
              | lst0 _ a cap => exact ⟨a, cap, by simp, Nat.zero_le _⟩
              | lst _ _ k s cap y hn hg hc hr => exact ⟨_, cap, rfl, hn⟩
            obtain ⟨b1, b2, b3, b4⟩ := run_bounds3 (P := P) hA true hcap h0 h1' h3
            obtain rfl : hh = 0 := by omega
            obtain rfl : ll = 0 := by omega
            refine .same hI (v := .slice a 0 0) ?_ (.emp a)
            simp only [execOp, ho, hv, Instr.sliceAt, Sem.run_bind, run_underlying hu, Result.andThen_ok, Instr.slice, Option.map_some, b1, run_sizeOf' hd, Sem.run_pure, if_pos]
          · cases h1
        · cases h
      · rename_i b g off n sz full hAx
        rw [hAx] at hx
        split at h
        · rename_i e he
          obtain ⟨hu, d, hd⟩ := elemTy_spec he
          split at h
          · rename_i hc
            obtain ⟨hsz, hl⟩ := hc
            obtain ⟨mm, h0, h1⟩ := Option.bind_eq_some_iff.1 h
            obtain ⟨hh, h1', h2⟩ := Option.bind_eq_some_iff.1 h1
            obtain ⟨ll, h3, rfl⟩ := Option.map_eq_some_iff.1 h2
            obtain ⟨bx, e1, e2, a, cap, hv, e4, e5, e6⟩ := live_sl hl hx
            obtain ⟨b1, b2, b3, b4⟩ := run_bounds3 (P := P) hA true e4 h0 h1' h3
            refine .same hI (v := .slice (if mm = ll then a else a.map (·.add (ll * sz))) (hh - ll) (mm - ll)) ?_ (rep_sl e1 e2 ⟨_, _, rfl, by omega, fun hf => ?_, fun h0 => ?_⟩)
            · simp only [execOp, ho, hv, Instr.sliceAt, Sem.run_bind, run_underlying hu, Result.andThen_ok, Instr.slice, Option.map_some, b1, run_sizeOf' hd, Sem.run_pure, hsz]
            · simp only [decide_eq_true_eq] at hf
              omega
            · obtain ⟨k, s, c, et, fr, f1, f2, f3, f4⟩ := e6 (by omega)
              rw [if_neg (by omega)]
              refine ⟨k, s, c, et, fr, f1, by rw [f2]; simp only [Option.map_some, add_plain, Nat.add_assoc], f3, ?_⟩
              have g1 : mm * sz = ll * sz + (mm - ll) * sz := by rw [← Nat.add_mul]; congr 1; omega
              have g2 : mm * sz ≤ cap * sz := Nat.mul_le_mul_right _ (by omega)
              omega
          · cases h
        · cases h
      · cases h
    · cases h

/-! ### Arithmetic -/
def iand (k : IntKind) (a b : Int) : Int := k.wrap (BitVec.ofInt k.bits a &&& BitVec.ofInt k.bits b).toNat
def ior (k : IntKind) (a b : Int) : Int := k.wrap (BitVec.ofInt k.bits a ||| BitVec.ofInt k.bits b).toNat
def ixor (k : IntKind) (a b : Int) : Int := k.wrap (BitVec.ofInt k.bits a ^^^ BitVec.ofInt k.bits b).toNat
def iandNot (k : IntKind) (a b : Int) : Int := k.wrap (BitVec.ofInt k.bits a &&& ~~~ BitVec.ofInt k.bits b).toNat
def aint (op : BinOp) (k : IntKind) (a b : Int) : Option Value :=
  match op with
  | .add => some (.int k (k.wrap (a + b)))
  | .sub => some (.int k (k.wrap (a - b)))
  | .mul => some (.int k (k.wrap (a * b)))
  | .quo => if b = 0 then none else some (.int k (k.wrap (a.tdiv b)))
  | .rem => if b = 0 then none else some (.int k (a.tmod b))
  | .and => some (.int k (iand k a b))
  | .or => some (.int k (ior k a b))
  | .xor => some (.int k (ixor k a b))
  | .andNot => some (.int k (iandNot k a b))
  | .eql => some (.bool (decide (a = b)))
  | .neq => some (.bool (!decide (a = b)))
  | .lss => some (.bool (decide (a < b)))
  | .leq => some (.bool (decide (a ≤ b)))
  | .gtr => some (.bool (decide (b < a)))
  | .geq => some (.bool (decide (b ≤ a)))
  | _ => none
def astr (op : BinOp) (a b : ByteArray) : Option Value :=
  match op with
  | .add => if a.size + b.size ≤ 4611686018427387904 then some (.string (a ++ b)) else none
  | .eql => some (.bool (decide (a = b)))
  | .neq => some (.bool (!decide (a = b)))
  | .lss => some (.bool (Op.bytesLess a.toList b.toList))
  | .gtr => some (.bool (!(Op.bytesLess a.toList b.toList || decide (a = b))))
  | .leq => some (.bool (Op.bytesLess a.toList b.toList || decide (a = b)))
  | .geq => some (.bool (!Op.bytesLess a.toList b.toList))
  | _ => none
def abin (P : Program) (op : BinOp) (t : TypeId) (x y : AV) : Option AV :=
  match x, y with
  | .v (.int k a), .v (.int k' b) =>
    match op with
    | .shl => if b < 0 then none else some (.v (.int k (k.wrap (a * 2 ^ (min b.toNat k.bits)))))
    | .shr => if b < 0 then none else some (.v (.int k (a.fdiv (2 ^ (min b.toNat k.bits)))))
    | op => if k = k' then (aint op k a b).map .v else none
  | .v (.string a), .v (.string b) => (astr op a b).map .v
  | .v (.bool a), .v (.bool b) => match op, P.underlying t with
    | .eql, some .bool => some (.v (.bool (decide (a = b))))
    | .neq, some .bool => some (.v (.bool (!decide (a = b))))
    | _, _ => none
  | .v (.slice none 0 0), .v (.slice none 0 0) => none
  | _, _ => none

theorem beqd {α : Type} [BEq α] [LawfulBEq α] [DecidableEq α] (a b : α) : (a == b) = decide (a = b) := by
  rw [Bool.eq_iff_iff]; simp
theorem bytes_list_eq (a b : ByteArray) : (a.toList == b.toList) = decide (a = b) := by
  rw [Bool.eq_iff_iff]
  simp only [beq_iff_eq, decide_eq_true_eq]
  refine ⟨fun h => ?_, fun h => by rw [h]⟩
  apply ByteArray.ext
  apply Array.ext'
  rwa [ByteArray.toList_eq, ByteArray.toList_eq] at h

theorem run_equal_bool {P : Program} {w : World} {t : TypeId} (hu : P.underlying t = some .bool) (a b : Bool) : (Op.equal t (.bool a) (.bool b)).run P w = .ok (decide (a = b)) w := by
  have : (Op.equalIn (9999 + 1) t (.bool a) (.bool b)).run P w = .ok (decide (a = b)) w := by
    rw [Op.equalIn]
    simp only [Sem.run_bind, run_underlying hu, Result.andThen_ok, Sem.run_pure, beqd]
  exact this
theorem does_binOp (hI : Inv base w H β) (hA : ∀ x, Rep w H β (A x) (ρ x)) {op : BinOp} {t : TypeId} {x y : Operand} {yt : TypeId} (ho : o.op = .binOp op t x y yt) {r : AV} (h : abin P op t (A x) (A y) = some r) : Does P ρ o base w H β r H := by
  have hx := hA x
  have hy := hA y
  unfold abin at h
  split at h
  · rename_i k a k' b hAx hAy
    rw [hAx] at hx
    rw [hAy] at hy
    generalize hvx : ρ x = vx at hx
    generalize hvy : ρ y = vy at hy
    cases hx
    cases hy
    have hguard : ∀ w, (eqGuard op t x y (.int k a) (.int k' b)).run P w = .ok () w := fun w => by
      unfold eqGuard
      cases op <;> rfl
    split at h
    · split at h
      · cases h
      · rename_i hb
        injection h with h
        subst h
        refine .same hI (v := .int k (k.wrap (a * 2 ^ (min b.toNat k.bits)))) ?_ (.v _)
        simp only [execOp, ho, hvx, hvy, Sem.run_bind, hguard, Result.andThen_ok, binOp, Op.shift, if_neg hb, Sem.run_pure]
    · split at h
      · cases h
      · rename_i hb
        injection h with h
        subst h
        refine .same hI (v := .int k (a.fdiv (2 ^ (min b.toNat k.bits)))) ?_ (.v _)
        simp only [execOp, ho, hvx, hvy, Sem.run_bind, hguard, Result.andThen_ok, binOp, Op.shift, if_neg hb, Sem.run_pure]
    · rename_i hn1 hn2
      split at h
      · rename_i hk
        subst hk
        obtain ⟨v, hv, rfl⟩ := Option.map_eq_some_iff.1 h
        refine .same hI (v := v) ?_ (.v _)
        simp only [execOp, ho, hvx, hvy, Sem.run_bind, hguard, Result.andThen_ok]
        cases op <;> first
          | exact absurd rfl hn1
          | exact absurd rfl hn2
          | (simp only [aint, Option.some.injEq, iand, ior, ixor, iandNot] at hv; subst hv; simp [binOp, Op.intArith, Op.intBits, Op.intCmp, bne, beqd]; done)
          | (by_cases hb : b = 0
             · simp [aint, hb] at hv
             · simp only [aint, if_neg hb, Option.some.injEq] at hv
               subst hv
               simp [binOp, Op.intDiv, hb]
               done)
          | (simp [aint] at hv; done)
      · cases h
  · rename_i a b hAx hAy
    rw [hAx] at hx
    rw [hAy] at hy
    generalize hvx : ρ x = vx at hx
    generalize hvy : ρ y = vy at hy
    cases hx
    cases hy
    have hguard : ∀ w, (eqGuard op t x y (.string a) (.string b)).run P w = .ok () w := fun w => by
      unfold eqGuard
      cases op <;> rfl
    obtain ⟨v, hv, rfl⟩ := Option.map_eq_some_iff.1 h
    refine .same hI (v := v) ?_ (.v _)
    simp only [execOp, ho, hvx, hvy, Sem.run_bind, hguard, Result.andThen_ok]
    cases op <;> first
      | (simp only [astr, Option.some.injEq] at hv; subst hv; simp only [binOp, Op.stringOp, bytes_list_eq, Sem.run_pure, Result.andThen_ok]; done)
      | (by_cases hs : a.size + b.size ≤ 4611686018427387904
         · simp only [astr, if_pos hs, Option.some.injEq] at hv
           subst hv
           have hn : ¬ ((a.size + b.size : Nat) : Int) > IntKind.i64.max := by simp [IntKind.max, IntKind.signed, IntKind.bits]; omega
           simp only [binOp, Op.stringOp, if_neg hn, Sem.run_pure, Result.andThen_ok]
           done
         · simp [astr, hs] at hv)
      | (simp [astr] at hv; done)
  · rename_i a b hAx hAy
    rw [hAx] at hx
    rw [hAy] at hy
    generalize hvx : ρ x = vx at hx
    generalize hvy : ρ y = vy at hy
    cases hx
    cases hy
    have hguard : ∀ w, (eqGuard op t x y (.bool a) (.bool b)).run P w = .ok () w := fun w => by
      unfold eqGuard
      cases op <;> rfl
    split at h
    · rename_i hu
      injection h with h
      subst h
      refine .same hI (v := .bool (decide (a = b))) ?_ (.v _)
      simp only [execOp, ho, hvx, hvy, Sem.run_bind, hguard, Result.andThen_ok, binOp, run_equal_bool hu, Sem.run_pure]
    · rename_i hu
      injection h with h
      subst h
      refine .same hI (v := .bool (!decide (a = b))) ?_ (.v _)
      simp only [execOp, ho, hvx, hvy, Sem.run_bind, hguard, Result.andThen_ok, binOp, run_equal_bool hu, Sem.run_pure]
    · cases h
  · cases h
  · cases h

def aun (op : UnOp) (x : AV) : Option AV :=
  match op, x with
  | .neg, .v (.int k n) => some (.v (.int k (k.wrap (0 - n))))
  | .xor, .v (.int k n) => some (.v (.int k (ixor k (if k.signed then -1 else k.max) n)))
  | .not, .v (.bool b) => some (.v (.bool !b))
  | _, _ => none
theorem does_unOp (hI : Inv base w H β) (hA : ∀ x, Rep w H β (A x) (ρ x)) {op : UnOp} {t : TypeId} {x : Operand} (ho : o.op = .unOp op t x) {r : AV} (h : aun op (A x) = some r) : Does P ρ o base w H β r H := by
  have hx := hA x
  unfold aun at h
  split at h
  · rename_i k n hAx
    rw [hAx] at hx
    generalize hvx : ρ x = vx at hx
    cases hx
    injection h with h
    subst h
    exact .same hI (by simp only [execOp, ho, hvx, Op.unary, Op.intArith, Sem.run_bind, Sem.run_pure, Result.andThen_ok]) (.v _)
  · rename_i k n hAx
    rw [hAx] at hx
    generalize hvx : ρ x = vx at hx
    cases hx
    injection h with h
    subst h
    exact .same hI (by simp only [execOp, ho, hvx, ixor, Op.unary, Op.intBits, Sem.run_bind, Sem.run_pure, Result.andThen_ok]) (.v _)
  · rename_i b hAx
    rw [hAx] at hx
    generalize hvx : ρ x = vx at hx
    cases hx
    injection h with h
    subst h
    exact .same hI (by simp only [execOp, ho, hvx, Op.unary, Sem.run_bind, Sem.run_pure, Result.andThen_ok]) (.v _)
  · cases h

/-! ### Conversions -/
/-- The bytes of rows of one byte each. -/
def bytesOf : List (List AV) → Option (List UInt8)
  | [] => some []
  | [.v (.int .u8 n)] :: r => (bytesOf r).map (UInt8.ofNat n.toNat :: ·)
  | _ => none
def bytesG (bs : List UInt8) : List (List AV) := bs.map fun b => [.v (.int .u8 b.toNat)]
theorem bytesOf_bytesG (bs : List UInt8) : bytesOf (bytesG bs) = some bs := by
  induction bs with
  | nil => rfl
  | cons b r ih =>
    simp only [bytesG, List.map_cons, bytesOf] at ih ⊢
    rw [ih]
    simp

def aconv (P : Program) (src dst : TypeId) (x : AV) : Option AV :=
  match P.underlying src, P.underlying dst, x with
  | some _, some (.int k), .v (.int _ n) => some (.v (.int k (k.wrap n)))
  | some _, some .string, .v (.string s) => some (.v (.string s))
  | some (.slice e), some .string, .emp => match P.underlying e with
    | some (.int .u8) => some (.v (.string ⟨#[]⟩))
    | _ => none
  | some (.slice e), some .string, .lst 1 gs => match P.underlying e with
    | some (.int .u8) => (bytesOf gs).map fun bs => .v (.string ⟨bs.toArray⟩)
    | _ => none
  | some .string, some (.slice e), .v (.string s) => match P.underlying e with
    | some (.int .u8) => if s.size < 9223372036854775808 then some (.lst 1 (bytesG s.data.toList)) else none
    | _ => none
  | _, _, _ => none

end ops
end Go.Proofs.YtnlmdeeadldgmaaGreatDoor.VL

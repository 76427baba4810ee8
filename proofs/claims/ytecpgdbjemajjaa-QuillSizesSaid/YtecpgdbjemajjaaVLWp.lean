/- The value logic, part 8: operations put together; states; what code does. -/
import Derived.Test.YtecpgdbjemajjaaVLOps6
import Derived.Test.YtecpgdbjemajjaaVLShare
import Derived.Test.YtecpgdbjemajjaaVLFreeze
set_option linter.unusedVariables false
set_option linter.unusedSimpArgs false
namespace Go.Proofs.Ytecpgdbjemajjaa.VL
open Go Go.RowKit Go.Lib

/-! ### One operation -/
def withH (H : List Box) : Option AV → Option (AV × List Box)
  | some r => some (r, H)
  | none => none
def nilOk (H : List Box) : AV → Bool
  | .ptr b g _ => live H b g
  | .elt .. => true
  | .fn .. => true
  | _ => false

def abuiltin (P : Program) (b : Builtin) (ts : List TypeId) (H : List Box) (xs : List AV) : Option (AV × List Box) :=
  match b, ts, xs with
  | .len, [t], [x] => withH H (alen P t H x)
  | .min, _, [x, y] => withH H (amin x y)
  | .max, _, [x, y] => withH H (amax x y)
  | .append, [t, t2], [s, x] => if notInt P t2 then aappend' P t H s x else none
  | .copy, [t, _], [d, x] => acopy P t H d x
  | _, _, _ => none

def aop (P : Program) (A : Operand → AV) (H : List Box) : Op → Option (AV × List Box)
  | .move x => some (A x, H)
  | .assign x => some (A x, H)
  | .pick c a b => match A c with
    | .v (.bool t) => some (apick t (A a) (A b), H)
    | _ => none
  | .alloc t => match zeroCs P t with
    | some cs => some (newBox H cs)
    | none => none
  | .box _ x => match (A x).cells with
    | some cs => if cs.all AV.one = true then some (newBox H cs) else none
    | none => none
  | .build t ps => withH H (abuild P A t ps)
  | .buildSlice t n ps => withH H (abuildSlice P A t n ps)
  | .load t x => withH H (aloadAt P t H (A x))
  | .store t x y => match astoreAt P t H (A x) (A y) with
    | some H' => some (.dead, H')
    | none => none
  | .nilCheck x => if nilOk H (A x) then some (A x, H) else none
  | .binOp op t x y _ => withH H (abin P op t (A x) (A y))
  | .unOp op _ x => withH H (aun op (A x))
  | .convert s d x => withH H (aconvH P H s d (A x))
  | .makeSlice t l c => amake P t H (A l) (A c)
  | .slice t x lo hi mx => withH H (aslice P t H (A x) (lo.map A) (hi.map A) (mx.map A))
  | .fieldAddr s x f => withH H (afieldAddr P s f H (A x))
  | .field s x f => withH H (afield P s f (A x))
  | .indexAddr t x i => withH H (aindexAddr P t H (A x) (A i))
  | .index t x i => withH H (aindex P t (A x) (A i))
  | .extract x i => withH H (aextract (A x) i)
  | .makeFunc (.func f) first cs => if first.size = 0 then some (.fn f (acaps A cs), H) else none
  | .call { callee := .builtin b, args, argTypes } => abuiltin P b argTypes.toList H (args.toList.map A)
  | _ => none

section
variable {P : Program} {ρ : Operand → Value} {A : Operand → AV} {o : Oper} {base : Nat} {w : World} {H : List Box} {β : Pl}
theorem withH_some {H H' : List Box} {x : Option AV} {r : AV} (h : withH H x = some (r, H')) : x = some r ∧ H' = H := by
  cases x with
  | none => simp [withH] at h
  | some y => simp [withH] at h; exact ⟨by rw [h.1], h.2.symm⟩
theorem arr1 {α : Type} {xs : Array α} {x : α} (h : xs.toList = [x]) : xs = #[x] := by apply Array.ext'; simp [h]
theorem arr2 {α : Type} {xs : Array α} {x y : α} (h : xs.toList = [x, y]) : xs = #[x, y] := by apply Array.ext'; simp [h]

theorem aop_sound (hI : Inv base w H β) (hA : ∀ x, Rep w H β (A x) (ρ x)) {r : AV} {H' : List Box} (h : aop P A H o.op = some (r, H')) : Does P ρ o base w H β r H' := by
  unfold aop at h
  split at h
  · rename_i x ho
    injection h with h; injection h with e1 e2; subst e1; subst e2
    exact does_move hI hA ho
  · rename_i x ho
    injection h with h; injection h with e1 e2; subst e1; subst e2
    exact does_assign hI hA ho
  · rename_i c a b ho
    split at h
    · rename_i t hc
      injection h with h; injection h with e1 e2; subst e1; subst e2
      exact does_pick hI hA ho hc
    · cases h
  · rename_i t ho
    split at h
    · rename_i cs hz
      injection h with h
      have := does_alloc (P := P) (ρ := ρ) hI ho hz
      rw [h] at this
      exact this
    · cases h
  · rename_i t x ho
    split at h
    · rename_i cs hz
      split at h
      · rename_i hone
        injection h with h
        have := does_box (P := P) hI hA ho hz hone
        rw [h] at this
        exact this
      · cases h
    · cases h
  · rename_i t ps ho
    obtain ⟨h1, rfl⟩ := withH_some h
    exact does_build hI hA ho h1
  · rename_i t n ps ho
    obtain ⟨h1, rfl⟩ := withH_some h
    exact does_buildSlice hI hA ho h1
  · rename_i t x ho
    obtain ⟨h1, rfl⟩ := withH_some h
    exact does_load hI hA ho h1
  · rename_i t x y ho
    split at h
    · rename_i H1 hst
      injection h with h; injection h with e1 e2; subst e1; subst e2
      exact does_store hI hA ho hst
    · cases h
  · rename_i x ho
    split at h
    · rename_i hn
      injection h with h; injection h with e1 e2; subst e1; subst e2
      have hx := hA x
      unfold nilOk at hn
      split at hn
      · rename_i b g off hAx
        rw [hAx] at hx ⊢
        obtain ⟨bx, k, s, h1, h2, h3, h4⟩ := live_ptr hn hx
        exact .same hI (v := ρ x) (by simp [execOp, ho, h4]) hx
      · rename_i g j hAx
        rw [hAx] at hx ⊢
        generalize hv : ρ x = v at hx
        cases hx with
        | elt _ _ k s y hc hr => exact .same hI (by simp [execOp, ho, hv]) (.elt _ _ k s y hc hr)
      · rename_i f cs hAx
        rw [hAx] at hx ⊢
        generalize hv : ρ x = v at hx
        cases hx with
        | fn _ _ vs hl hr => exact .same hI (by simp [execOp, ho, hv]) (.fn _ _ vs hl hr)
      · cases hn
    · cases h
  · rename_i op t x y yt ho
    obtain ⟨h1, rfl⟩ := withH_some h
    exact does_binOp hI hA ho h1
  · rename_i op t x ho
    obtain ⟨h1, rfl⟩ := withH_some h
    exact does_unOp hI hA ho h1
  · rename_i s d x ho
    obtain ⟨h1, rfl⟩ := withH_some h
    exact does_convertH hI hA ho h1
  · rename_i t l c ho
    exact does_make hI hA ho h
  · rename_i t x lo hi mx ho
    obtain ⟨h1, rfl⟩ := withH_some h
    exact does_slice hI hA ho h1
  · rename_i s x f ho
    obtain ⟨h1, rfl⟩ := withH_some h
    exact does_fieldAddr hI hA ho h1
  · rename_i s x f ho
    obtain ⟨h1, rfl⟩ := withH_some h
    exact does_field hI hA ho h1
  · rename_i t x i ho
    obtain ⟨h1, rfl⟩ := withH_some h
    exact does_indexAddr hI hA ho h1
  · rename_i t x i ho
    obtain ⟨h1, rfl⟩ := withH_some h
    exact does_index hI hA ho h1
  · rename_i x i ho
    obtain ⟨h1, rfl⟩ := withH_some h
    exact does_extract hI hA ho h1
  · rename_i f first cs ho
    split at h
    · rename_i h0
      injection h with h; injection h with e1 e2; subst e1; subst e2
      have : first = #[] := Array.eq_empty_of_size_eq_zero h0
      subst this
      exact does_makeFunc hI hA ho
    · cases h
  · rename_i b args ts ho
    unfold abuiltin at h
    split at h
    · rename_i t x hts hxs
      obtain ⟨h1, rfl⟩ := withH_some h
      obtain ⟨y, hy, rfl⟩ : ∃ y, args.toList = [y] ∧ A y = x := by
        cases ha : args.toList with
        | nil => rw [ha] at hxs; cases hxs
        | cons y r => rw [ha] at hxs; simp at hxs; exact ⟨y, by rw [hxs.2], hxs.1⟩
      rw [arr1 hts, arr1 hy] at ho
      exact does_len hI hA ho h1
    · rename_i ts' x y hxs
      obtain ⟨h1, rfl⟩ := withH_some h
      obtain ⟨p, q, hp, rfl, rfl⟩ : ∃ p q, args.toList = [p, q] ∧ A p = x ∧ A q = y := by
        cases ha : args.toList with
        | nil => rw [ha] at hxs; cases hxs
        | cons p r =>
          rw [ha] at hxs
          cases r with
          | nil => simp at hxs
          | cons q r => simp at hxs; exact ⟨p, q, by rw [hxs.2.2], hxs.1, hxs.2.1⟩
      rw [arr2 hp] at ho
      exact does_min hI hA ho h1
    · rename_i ts' x y hxs
      obtain ⟨h1, rfl⟩ := withH_some h
      obtain ⟨p, q, hp, rfl, rfl⟩ : ∃ p q, args.toList = [p, q] ∧ A p = x ∧ A q = y := by
        cases ha : args.toList with
        | nil => rw [ha] at hxs; cases hxs
        | cons p r =>
          rw [ha] at hxs
          cases r with
          | nil => simp at hxs
          | cons q r => simp at hxs; exact ⟨p, q, by rw [hxs.2.2], hxs.1, hxs.2.1⟩
      rw [arr2 hp] at ho
      exact does_max hI hA ho h1
    · rename_i t t2 x y hts hxs
      split at h
      · rename_i hn
        obtain ⟨p, q, hp, rfl, rfl⟩ : ∃ p q, args.toList = [p, q] ∧ A p = x ∧ A q = y := by
          cases ha : args.toList with
          | nil => rw [ha] at hxs; cases hxs
          | cons p r =>
            rw [ha] at hxs
            cases r with
            | nil => simp at hxs
            | cons q r => simp at hxs; exact ⟨p, q, by rw [hxs.2.2], hxs.1, hxs.2.1⟩
        rw [arr2 hp, arr2 hts] at ho
        exact does_append' hI hA ho hn h
      · cases h
    · rename_i t t2 x y hts hxs
      obtain ⟨p, q, hp, rfl, rfl⟩ : ∃ p q, args.toList = [p, q] ∧ A p = x ∧ A q = y := by
        cases ha : args.toList with
        | nil => rw [ha] at hxs; cases hxs
        | cons p r =>
          rw [ha] at hxs
          cases r with
          | nil => simp at hxs
          | cons q r => simp at hxs; exact ⟨p, q, by rw [hxs.2.2], hxs.1, hxs.2.1⟩
      rw [arr2 hp, arr2 hts] at ho
      exact does_copy hI hA ho h
    · cases h
  · cases h
end

end Go.Proofs.Ytecpgdbjemajjaa.VL

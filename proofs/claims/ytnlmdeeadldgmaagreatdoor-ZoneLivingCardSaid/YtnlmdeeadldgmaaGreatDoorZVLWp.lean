/- The value logic, part 8: operations put together; states; what code does. -/
import Derived.Test.YtnlmdeeadldgmaaGreatDoorZG06
import Derived.Test.YtnlmdeeadldgmaaGreatDoorZG07
import Derived.Test.YtnlmdeeadldgmaaGreatDoorZVLBs
set_option linter.unusedVariables false
set_option linter.unusedSimpArgs false
namespace Go.Proofs.YtnlmdeeadldgmaaGreatDoor.VL
open Go Go.RowKit Go.Lib

/-! ### One operation -/
def withH (H : List Box) : Option AV → Option (AV × List Box)
  | some r => some (r, H)
  | none => none
def nilOk (H : List Box) : AV → Bool
  | .ptr b g _ => live H b g
  | .elt .. => true
  | .fn .. => true
  | _ => false

def abuiltin (P : Program) (ty : TypeId) (b : Builtin) (ts : List TypeId) (H : List Box) (xs : List AV) : Option (AV × List Box) :=
  match b, ts, xs with
  | .len, [t], [x] => withH H (alen P t H (unbs x))
  | .cap, [t], [x] => withH H (acap P t H (unbs x))
  | .unsafeSliceData, [t], [x] => match x with
    | .bs b g n e => match P.underlying ty with
      | some (.pointer _) => if live H b g = true then some (.bp b g n e, H) else none
      | _ => none
    | .v (.slice none 0 0) => some (.v (.pointer none), H)
    | _ => none
  | .unsafeString, [t, _], [p, l] => aunsafeString P t H p l
  | .clear, [t], [x] => aclear P t H x
  | .min, _, [x, y] => withH H (amin x y)
  | .max, _, [x, y] => withH H (amax x y)
  | .append, [t, t2], [s, x] => bif isBs P t s then (if notInt P t2 then aappendB P t H s (unbs x) else none) else if notInt P t2 then aappendT P t H s x else if isInt P t2 then aappendZ P t H s x else none
  | .copy, [t, _], [d, x] => acopy P t H (unbs d) (unbs x)
  | _, _, _ => none

/-- Values that name no memory. -/
def plainVals : List AV → Option (List Value)
  | [] => some []
  | .v x :: r => (plainVals r).map (x :: ·)
  | _ :: _ => none
theorem plainVals_eq : ∀ {cs : List AV} {vs : List Value}, plainVals cs = some vs → cs = vs.map .v
  | [], vs, h => by injection h with h; subst h; rfl
  | c :: r, vs, h => by
    unfold plainVals at h
    split at h
    · rename_i he; cases he
    · rename_i x r' he
      injection he with h1 h2
      subst h1; subst h2
      obtain ⟨vs', h3, rfl⟩ := Option.map_eq_some_iff.1 h
      rw [plainVals_eq h3]; rfl
    · cases h
/-- A value as an interface's. -/
def amkI (P : Program) (t : TypeId) : AV → Option AV
  | .v x => match P.underlying t with
    | some (.interface _) => none
    | some _ => some (.v (.iface t x))
    | none => none
  | .agg cs => match plainVals cs, P.underlying t with
    | some _, some (.interface _) => none
    | some vs, some _ => some (.v (.iface t (.agg vs.toArray)))
    | _, _ => none
  | _ => none
/-- A value that names no memory, as an abstract one. -/
def plainAV : Value → AV
  | .agg vs => .agg (vs.toList.map .v)
  | v => .v v
theorem rep_plainAV {w : World} {H : List Box} {β : Pl} (v : Value) : Rep w H β (plainAV v) v := by
  cases v with
  | agg vs =>
    exact .agg _ vs (by simp) fun i c x hc hx => by
      rw [List.getElem?_map] at hc
      obtain ⟨y, hy, rfl⟩ := Option.map_eq_some_iff.1 hc
      rw [← Array.getElem?_toList] at hx
      rw [hy] at hx
      injection hx with hx
      subst hx
      exact .v _
  | _ => exact .v _
/-- An interface's value, asked for a type that is none. -/
def atypeA (P : Program) (t : TypeId) (ok : Bool) : AV → Option AV
  | .v (.iface u x) => match P.underlying t with
    | some (.interface _) => none
    | some _ => if u = t ∧ ok = true then some (.tup [plainAV x, .v (.bool true)]) else none
    | none => none
  | _ => none
/-- Is it asked whether something is nil? -/
def eqlNil : BinOp → Operand → Bool
  | .eql, .const .nilIface => true
  | _, _ => false
theorem eqlNil_eq {op : BinOp} {y : Operand} (h : eqlNil op y = true) : op = .eql ∧ y = .const .nilIface := by
  unfold eqlNil at h
  split at h
  · exact ⟨rfl, rfl⟩
  · cases h
/-- Is an interface nil? -/
def aisNil (P : Program) (t : TypeId) : AV → AV → Option AV
  | .v .nilIface, .v (.iface _ _) => match P.underlying t with
    | some (.interface _) => some (.v (.bool false))
    | _ => none
  | .v .nilIface, .v .nilIface => match P.underlying t with
    | some (.interface _) => some (.v (.bool true))
    | _ => none
  | _, _ => none
/-- What a map of numbers holds of a number. -/
def alookup (P : Program) (t : TypeId) (m k : AV) : Option AV :=
  match m, k with
  | .mp es, .v x => match P.underlying t with
    | some (.map kt et) => match P.underlying kt with
      | some (.int q) => match Instr.findNow (.int q) x es.toList 0, (P.info? et).bind (·.zero) with
        | some (some (_, y)), _ => some (.tup [.v y, .v (.bool true)])
        | some none, some z => some (.tup [.v z, .v (.bool false)])
        | _, _ => none
      | _ => none
    | _ => none
  | _, _ => none
def aopU (P : Program) (ty : TypeId) (A : Operand → AV) (H : List Box) : Op → Option (AV × List Box)
  | .move x => some (A x, H)
  | .assign x => some (A x, H)
  | .pick c a b => match A c with
    | .v (.bool t) => some (apick t (A a) (A b), H)
    | _ => none
  | .alloc t => match zeroCs P t with
    | some cs => bif selfTy P t && selfOk cs then some (selfBox H t cs) else some (newBox H cs)
    | none => none
  | .box _ x => match (A x).cells with
    | some cs => if cs.all AV.one = true then some (newBox H cs) else none
    | none => none
  | .build t ps => withH H (abuild P A t ps)
  | .buildSlice t n ps => withH H (abuildSlice P A t n ps)
  | .load t x => withH H (aloadAt P t H (A x))
  | .store t x y => match astoreAt P t H (A x) (A y) with
    | some H' => some (.dead, H')
    | none => none
  | .nilCheck x => if nilOk H (A x) then some (A x, H) else none
  | .typeAssert x _ t ok => withH H (atypeA P t ok (A x))
  | .binOp op t x y _ => withH H (match A x, A y with
    | .agg xs, .agg ys => aggEq P op t xs ys
    | a, b => bif eqlNil op y then aisNil P t b a else abin P op t a b)
  | .unOp op _ x => withH H (aun op (A x))
  | .convert s d x => withH H (aconvH P H s d (A x))
  | .makeSlice t l c => amake P t H (A l) (A c)
  | .slice t x lo hi mx => withH H (match A x with
    | .bs b g n e => abslice P t H b g n e (lo.map A) (hi.map A) (mx.map A)
    | y => aslice P t H y (lo.map A) (hi.map A) (mx.map A))
  | .fieldAddr s x f => withH H (afieldAddr P s f H (A x))
  | .field s x f => withH H (afield P s f (A x))
  | .indexAddr t x i => withH H (aindexAddr P t H (A x) (A i))
  | .index t x i => withH H (aindex P t (A x) (A i))
  | .lookup t m k true => withH H (alookup P t (A m) (A k))
  | .extract x i => withH H (aextract (A x) i)
  | .makeFunc (.func f) first cs => if first.size = 0 then some (.fn f (acaps A cs), H) else none
  | .makeInterface t x => withH H (amkI P t (A x))
  | .call { callee := .builtin b, args, argTypes } => abuiltin P ty b argTypes.toList H (args.toList.map A)
  | _ => none

section
variable {P : Program} {ρ : Operand → Value} {A : Operand → AV} {o : Oper} {base : Nat} {w : World} {H : List Box} {β : Pl}
theorem withH_some {H H' : List Box} {x : Option AV} {r : AV} (h : withH H x = some (r, H')) : x = some r ∧ H' = H := by
  cases x with
  | none => simp [withH] at h
  | some y => simp [withH] at h; exact ⟨by rw [h.1], h.2.symm⟩
theorem arr1 {α : Type} {xs : Array α} {x : α} (h : xs.toList = [x]) : xs = #[x] := by apply Array.ext'; simp [h]
theorem arr2 {α : Type} {xs : Array α} {x y : α} (h : xs.toList = [x, y]) : xs = #[x, y] := by apply Array.ext'; simp [h]

theorem run_makeI {t : TypeId} {d : TypeDesc} (ht : P.underlying t = some d) (hd : ∀ m, d ≠ .interface m) (v : Value) : (Instr.makeInterface t v).run P w = .ok (.iface t v) w := by
  unfold Instr.makeInterface
  simp only [Sem.run_bind, run_underlying ht, Result.andThen_ok]
  cases d <;> first | rfl | exact absurd rfl (hd _)
theorem does_makeI (hI : Inv base w H β) (hA : ∀ x, Rep w H β (A x) (ρ x)) {t : TypeId} {x : Operand} (ho : o.op = .makeInterface t x) {r : AV} (h : amkI P t (A x) = some r) : Does P ρ o base w H β r H := by
  have hx := hA x
  unfold amkI at h
  split at h
  · rename_i y hAx
    rw [hAx] at hx
    generalize hv : ρ x = v at hx
    cases hx
    split at h
    · cases h
    · rename_i d hd hn
      injection h with h
      subst h
      exact .same hI (by simp [execOp, ho, hv, run_makeI hn (fun m e => hd m e)]) (.v _)
    · cases h
  · rename_i cs hAx
    rw [hAx] at hx
    generalize hv : ρ x = v at hx
    split at h
    · cases h
    · rename_i vs d hd hp hn
      injection h with h
      subst h
      have hcs := plainVals_eq hp
      subst hcs
      cases hx with
      | agg _ ws hl hr =>
        have hws : ws = vs.toArray := by
          apply Array.ext
          · simpa using hl.symm
          · intro i h1 h2
            have h3 : (vs.map AV.v)[i]? = some (.v (vs[i]'(by simpa using h2))) := by simp
            have := hr i _ _ h3 (Array.getElem?_eq_getElem h1)
            generalize hq : ws[i] = q at this
            cases this
            simp
        subst hws
        exact .same hI (by simp [execOp, ho, hv, run_makeI hn (fun m e => hd m e)]) (.v _)
    · cases h
  · cases h
theorem does_typeA (hI : Inv base w H β) (hA : ∀ x, Rep w H β (A x) (ρ x)) {x : Operand} {s t : TypeId} {ok : Bool} (ho : o.op = .typeAssert x s t ok) {r : AV} (h : atypeA P t ok (A x) = some r) : Does P ρ o base w H β r H := by
  have hx := hA x
  unfold atypeA at h
  split at h
  · rename_i u y hAx
    rw [hAx] at hx
    generalize hv : ρ x = v at hx
    cases hx
    split at h
    · cases h
    · rename_i d hd hn
      split at h
      · rename_i hc
        obtain ⟨rfl, rfl⟩ := hc
        injection h with h
        subst h
        refine .same hI (v := .tuple #[y, .bool true]) ?_ (.tup _ _ rfl fun i c z hc hz => ?_)
        · simp only [execOp, ho, hv]
          unfold Instr.typeAssert
          simp only [Sem.run_bind, run_underlying hn, Result.andThen_ok]
          cases d <;> first | simp [Sem.run_pure] | exact absurd rfl (hd _)
        · rcases i with _ | _ | i
          · simp at hc hz; subst hc; subst hz; exact rep_plainAV _
          · simp at hc hz; subst hc; subst hz; exact .v _
          · simp at hc
      · cases h
    · cases h
  · cases h
theorem run_isNil {t : TypeId} {ms : Array (String × TypeId)} (ht : P.underlying t = some (.interface ms)) (v : Value) (b : Bool) (hv : (v = .nilIface ∧ b = true) ∨ ((∃ u x, v = .iface u x) ∧ b = false)) : (Op.equal t v .nilIface).run P w = .ok b w := by
  have : (Op.equalIn (9999 + 1) t v .nilIface).run P w = .ok b w := by
    rw [Op.equalIn]
    rcases hv with ⟨rfl, rfl⟩ | ⟨⟨u, x, rfl⟩, rfl⟩ <;> simp only [Sem.run_bind, run_underlying ht, Result.andThen_ok, Sem.run_pure]
  exact this
theorem does_isNil (hI : Inv base w H β) (hA : ∀ x, Rep w H β (A x) (ρ x)) {t : TypeId} {x : Operand} {yt : TypeId} (ho : o.op = .binOp .eql t x (.const .nilIface) yt) {r : AV} (h : aisNil P t (A (.const .nilIface)) (A x) = some r) : Does P ρ o base w H β r H := by
  have hx := hA x
  have hc := hA (.const .nilIface)
  unfold aisNil at h
  split at h
  · rename_i u y hAc hAx
    rw [hAx] at hx
    rw [hAc] at hc
    generalize hv : ρ x = v at hx
    generalize hcv : ρ (.const .nilIface) = c at hc
    cases hx
    cases hc
    split at h
    · rename_i ms hn
      injection h with h
      subst h
      refine .same hI (v := .bool false) ?_ (.v _)
      simp only [execOp, ho, hv, hcv, Sem.run_bind]
      simp [eqGuard, binOp, run_isNil hn (.iface u y) false (.inr ⟨⟨u, y, rfl⟩, rfl⟩)]
    · cases h
  · rename_i hAc hAx
    rw [hAx] at hx
    rw [hAc] at hc
    generalize hv : ρ x = v at hx
    generalize hcv : ρ (.const .nilIface) = c at hc
    cases hx
    cases hc
    split at h
    · rename_i ms hn
      injection h with h
      subst h
      refine .same hI (v := .bool true) ?_ (.v _)
      simp only [execOp, ho, hv, hcv, Sem.run_bind]
      simp [eqGuard, binOp, run_isNil hn .nilIface true (.inl ⟨rfl, rfl⟩)]
    · cases h
  · cases h
theorem does_lookup (hI : Inv base w H β) (hA : ∀ x, Rep w H β (A x) (ρ x)) {t : TypeId} {m k : Operand} (ho : o.op = .lookup t m k true) {r : AV} (h : alookup P t (A m) (A k) = some r) : Does P ρ o base w H β r H := by
  have hm := hA m
  have hk := hA k
  unfold alookup at h
  split at h
  · rename_i es x hAm hAk
    rw [hAm] at hm
    rw [hAk] at hk
    generalize hv : ρ m = v at hm
    generalize hu : ρ k = u at hk
    cases hm with
    | mp _ b clock hb =>
      cases hk
      have hg : (getObj b).run P w = .ok (.map es clock) w := by simp [getObj, Sem.run, hb]
      split at h
      · rename_i kt et ht
        split at h
        · rename_i q hq
          have hck : ∀ e, (Instr.checkKey e 10000 kt x).run P w = .ok () w := fun e => by
            show (Instr.checkKey e (9999 + 1) kt x).run P w = _
            rw [Instr.checkKey]
            simp only [Sem.run_bind, run_underlying hq, Result.andThen_ok, Sem.run_pure]
          have hfk : ∀ z, Instr.findNow (.int q) x es.toList 0 = some z → (Instr.findKey kt x es.toList).run P w = .ok z w := fun z hz => by
            simp only [Instr.findKey, Sem.run_bind, run_underlying hq, Result.andThen_ok, hz, Sem.run_pure]
          have key : ∀ z y b, Instr.findNow (.int q) x es.toList 0 = some z → ((∃ i, z = some (i, y)) ∧ b = true ∨ z = none ∧ b = false ∧ (zeroValue et).run P w = .ok y w) → (execOp ρ o).run P w = .ok (.value (.tuple #[y, .bool b])) w := fun z y b hz hy => by
            rcases hy with ⟨⟨i, rfl⟩, rfl⟩ | ⟨rfl, rfl, hy⟩
            · simp only [execOp, ho, hv, hu, Instr.lookup, Sem.run_bind, run_underlying ht, Result.andThen_ok, hg, Sem.run_pure, hck, hfk _ hz, if_true]
            · simp only [execOp, ho, hv, hu, Instr.lookup, Sem.run_bind, run_underlying ht, Result.andThen_ok, hg, Sem.run_pure, hck, hfk _ hz, hy, if_true]
          split at h
          · rename_i i y hf
            injection h with h
            subst h
            refine .same hI (key _ y true hf (.inl ⟨⟨i, rfl⟩, rfl⟩)) (.tup _ _ rfl fun i c z hc hz => ?_)
            rcases i with _ | _ | i
            · simp at hc hz; subst hc; subst hz; exact .v _
            · simp at hc hz; subst hc; subst hz; exact .v _
            · simp at hc
          · rename_i z hf hz
            injection h with h
            subst h
            obtain ⟨inf, hi, hiz⟩ := Option.bind_eq_some_iff.1 hz
            refine .same hI (key _ z false hf (.inr ⟨rfl, rfl, ?_⟩)) (.tup _ _ rfl fun i c z hc hz => ?_)
            · simp only [zeroValue, typeInfo, program, Sem.run, hi, hiz]
              first | rfl | simp [Sem.run, zeroValue, typeInfo, program, hi, hiz]
            · rcases i with _ | _ | i
              · simp at hc hz; subst hc; subst hz; exact .v _
              · simp at hc hz; subst hc; subst hz; exact .v _
              · simp at hc
          · cases h
        · cases h
      · cases h
  · cases h
theorem aopU_sound (hI : Inv base w H β) (hA : ∀ x, Rep w H β (A x) (ρ x)) {r : AV} {H' : List Box} (h : aopU P o.type A H o.op = some (r, H')) : Does P ρ o base w H β r H' := by
  unfold aopU at h
  split at h
  · rename_i x ho
    injection h with h; injection h with e1 e2; subst e1; subst e2
    exact does_move hI hA ho
  · rename_i x ho
    injection h with h; injection h with e1 e2; subst e1; subst e2
    exact does_assign hI hA ho
  · rename_i c a b ho
    split at h
    · rename_i t hc
      injection h with h; injection h with e1 e2; subst e1; subst e2
      exact does_pick hI hA ho hc
    · cases h
  · rename_i t ho
    split at h
    · rename_i cs hz
      cases hse : selfTy P t && selfOk cs with
      | true =>
        rw [hse, cond_true] at h
        injection h with h
        have := does_allocS (P := P) (ρ := ρ) hI ho hz (by simp only [Bool.and_eq_true] at hse; exact hse.2)
        rw [h] at this
        exact this
      | false =>
        rw [hse, cond_false] at h
        injection h with h
        have := does_alloc (P := P) (ρ := ρ) hI ho hz
        rw [h] at this
        exact this
    · cases h
  · rename_i t x ho
    split at h
    · rename_i cs hz
      split at h
      · rename_i hone
        injection h with h
        have := does_box (P := P) hI hA ho hz hone
        rw [h] at this
        exact this
      · cases h
    · cases h
  · rename_i t ps ho
    obtain ⟨h1, rfl⟩ := withH_some h
    exact does_build hI hA ho h1
  · rename_i t n ps ho
    obtain ⟨h1, rfl⟩ := withH_some h
    obtain ⟨v, w', β', r1, r2, r3, r4, _⟩ := does_buildSlice hI hA ho h1
    exact ⟨v, w', β', .inl r1, r2, r3, r4⟩
  · rename_i t x ho
    obtain ⟨h1, rfl⟩ := withH_some h
    exact does_load hI hA ho h1
  · rename_i t x y ho
    split at h
    · rename_i H1 hst
      injection h with h; injection h with e1 e2; subst e1; subst e2
      exact does_store hI hA ho hst
    · cases h
  · rename_i x ho
    split at h
    · rename_i hn
      injection h with h; injection h with e1 e2; subst e1; subst e2
      have hx := hA x
      unfold nilOk at hn
      split at hn
      · rename_i b g off hAx
        rw [hAx] at hx ⊢
        obtain ⟨bx, k, s, h1, h2, h3, h4⟩ := live_ptr hn hx
        exact .same hI (v := ρ x) (by simp [execOp, ho, h4]) hx
      · rename_i g j hAx
        rw [hAx] at hx ⊢
        generalize hv : ρ x = v at hx
        cases hx with
        | elt _ _ k s y hc hr => exact .same hI (by simp [execOp, ho, hv]) (.elt _ _ k s y hc hr)
      · rename_i f cs hAx
        rw [hAx] at hx ⊢
        generalize hv : ρ x = v at hx
        cases hx with
        | fn _ _ vs hl hr => exact .same hI (by simp [execOp, ho, hv]) (.fn _ _ vs hl hr)
      · cases hn
    · cases h
  · rename_i x s t ok ho
    obtain ⟨h1, rfl⟩ := withH_some h
    exact does_typeA hI hA ho h1
  · rename_i op t x y yt ho
    obtain ⟨h1, rfl⟩ := withH_some h
    split at h1
    · rename_i xs ys hx hy
      exact does_aggEq hI hA ho hx hy h1
    · cases he : eqlNil op y with
      | true =>
        rw [he, cond_true] at h1
        obtain ⟨rfl, rfl⟩ := eqlNil_eq he
        exact does_isNil hI hA ho h1
      | false =>
        rw [he, cond_false] at h1
        exact does_binOp hI hA ho h1
  · rename_i op t x ho
    obtain ⟨h1, rfl⟩ := withH_some h
    exact does_unOp hI hA ho h1
  · rename_i s d x ho
    obtain ⟨h1, rfl⟩ := withH_some h
    exact does_convertH hI hA ho h1
  · rename_i t l c ho
    exact does_make hI hA ho h
  · rename_i t x lo hi mx ho
    obtain ⟨h1, rfl⟩ := withH_some h
    split at h1
    · rename_i b g n e hx
      exact does_bslice hI hA ho hx h1
    · exact does_slice hI hA ho h1
  · rename_i s x f ho
    obtain ⟨h1, rfl⟩ := withH_some h
    exact does_fieldAddr hI hA ho h1
  · rename_i s x f ho
    obtain ⟨h1, rfl⟩ := withH_some h
    exact does_field hI hA ho h1
  · rename_i t x i ho
    obtain ⟨h1, rfl⟩ := withH_some h
    exact does_indexAddr hI hA ho h1
  · rename_i t x i ho
    obtain ⟨h1, rfl⟩ := withH_some h
    exact does_index hI hA ho h1
  · rename_i t m k ho
    obtain ⟨h1, rfl⟩ := withH_some h
    exact does_lookup hI hA ho h1
  · rename_i x i ho
    obtain ⟨h1, rfl⟩ := withH_some h
    exact does_extract hI hA ho h1
  · rename_i f first cs ho
    split at h
    · rename_i h0
      injection h with h; injection h with e1 e2; subst e1; subst e2
      have : first = #[] := Array.eq_empty_of_size_eq_zero h0
      subst this
      exact does_makeFunc hI hA ho
    · cases h
  · rename_i t x ho
    obtain ⟨h1, rfl⟩ := withH_some h
    exact does_makeI hI hA ho h1
  · rename_i b args ts ho
    unfold abuiltin at h
    split at h
    · rename_i t x hts hxs
      obtain ⟨h1, rfl⟩ := withH_some h
      obtain ⟨y, hy, rfl⟩ : ∃ y, args.toList = [y] ∧ A y = x := by
        cases ha : args.toList with
        | nil => rw [ha] at hxs; cases hxs
        | cons y r => rw [ha] at hxs; simp at hxs; exact ⟨y, by rw [hxs.2], hxs.1⟩
      rw [arr1 hts, arr1 hy] at ho
      exact does_len (A := fun y => unbs (A y)) hI (fun y => unbs_rep (hA y)) ho h1
    · rename_i t x hts hxs
      obtain ⟨h1, rfl⟩ := withH_some h
      obtain ⟨y, hy, rfl⟩ : ∃ y, args.toList = [y] ∧ A y = x := by
        cases ha : args.toList with
        | nil => rw [ha] at hxs; cases hxs
        | cons y r => rw [ha] at hxs; simp at hxs; exact ⟨y, by rw [hxs.2], hxs.1⟩
      rw [arr1 hts, arr1 hy] at ho
      exact does_cap (A := fun y => unbs (A y)) hI (fun y => unbs_rep (hA y)) ho h1
    · rename_i t x hts hxs
      obtain ⟨y, hy, rfl⟩ : ∃ y, args.toList = [y] ∧ A y = x := by
        cases ha : args.toList with
        | nil => rw [ha] at hxs; cases hxs
        | cons y r => rw [ha] at hxs; simp at hxs; exact ⟨y, by rw [hxs.2], hxs.1⟩
      rw [arr1 hts, arr1 hy] at ho
      split at h
      · rename_i b g n e hx
        split at h
        · rename_i e' hty
          split at h
          · rename_i hl
            injection h with h
            injection h with e1 e2
            subst e1; subst e2
            exact does_sliceData hI hA ho hty hx hl
          · cases h
        · cases h
      · rename_i hx
        injection h with h
        injection h with e1 e2
        subst e1; subst e2
        have hr := hA y
        rw [hx] at hr
        generalize hv : ρ y = v at hr
        cases hr
        exact .same hI (v := .pointer none) (by simp [execOp, ho, resolve, invoke, builtin, hv, run_unsafeSliceData_nil]) (.v _)
      · cases h
    · rename_i t t2 p l hts hxs
      obtain ⟨p', q', hp, rfl, rfl⟩ : ∃ p' q', args.toList = [p', q'] ∧ A p' = p ∧ A q' = l := by
        cases ha : args.toList with
        | nil => rw [ha] at hxs; cases hxs
        | cons p r =>
          rw [ha] at hxs
          cases r with
          | nil => simp at hxs
          | cons q r => simp at hxs; exact ⟨p, q, by rw [hxs.2.2], hxs.1, hxs.2.1⟩
      rw [arr2 hp, arr2 hts] at ho
      exact does_unsafeString hI hA ho h
    · rename_i t x hts hxs
      obtain ⟨y, hy, rfl⟩ : ∃ y, args.toList = [y] ∧ A y = x := by
        cases ha : args.toList with
        | nil => rw [ha] at hxs; cases hxs
        | cons y r => rw [ha] at hxs; simp at hxs; exact ⟨y, by rw [hxs.2], hxs.1⟩
      rw [arr1 hts, arr1 hy] at ho
      exact does_clear hI hA ho h
    · rename_i ts' x y hxs
      obtain ⟨h1, rfl⟩ := withH_some h
      obtain ⟨p, q, hp, rfl, rfl⟩ : ∃ p q, args.toList = [p, q] ∧ A p = x ∧ A q = y := by
        cases ha : args.toList with
        | nil => rw [ha] at hxs; cases hxs
        | cons p r =>
          rw [ha] at hxs
          cases r with
          | nil => simp at hxs
          | cons q r => simp at hxs; exact ⟨p, q, by rw [hxs.2.2], hxs.1, hxs.2.1⟩
      rw [arr2 hp] at ho
      exact does_min hI hA ho h1
    · rename_i ts' x y hxs
      obtain ⟨h1, rfl⟩ := withH_some h
      obtain ⟨p, q, hp, rfl, rfl⟩ : ∃ p q, args.toList = [p, q] ∧ A p = x ∧ A q = y := by
        cases ha : args.toList with
        | nil => rw [ha] at hxs; cases hxs
        | cons p r =>
          rw [ha] at hxs
          cases r with
          | nil => simp at hxs
          | cons q r => simp at hxs; exact ⟨p, q, by rw [hxs.2.2], hxs.1, hxs.2.1⟩
      rw [arr2 hp] at ho
      exact does_max hI hA ho h1
    · rename_i t t2 x y hts hxs
      obtain ⟨p, q, hp, rfl, rfl⟩ : ∃ p q, args.toList = [p, q] ∧ A p = x ∧ A q = y := by
        cases ha : args.toList with
        | nil => rw [ha] at hxs; cases hxs
        | cons p r =>
          rw [ha] at hxs
          cases r with
          | nil => simp at hxs
          | cons q r => simp at hxs; exact ⟨p, q, by rw [hxs.2.2], hxs.1, hxs.2.1⟩
      rw [arr2 hp, arr2 hts] at ho
      cases hbs : isBs P t (A p) with
      | true =>
        rw [hbs, cond_true] at h
        split at h
        · rename_i hn
          exact does_appendB hI hA ho hn hbs h
        · cases h
      | false =>
        rw [hbs, cond_false] at h
        split at h
        · rename_i hn
          exact does_appendT hI hA ho hn h
        · split at h
          · rename_i hn
            exact does_appendZ hI hA ho hn h
          · cases h
    · rename_i t t2 x y hts hxs
      obtain ⟨p, q, hp, rfl, rfl⟩ : ∃ p q, args.toList = [p, q] ∧ A p = x ∧ A q = y := by
        cases ha : args.toList with
        | nil => rw [ha] at hxs; cases hxs
        | cons p r =>
          rw [ha] at hxs
          cases r with
          | nil => simp at hxs
          | cons q r => simp at hxs; exact ⟨p, q, by rw [hxs.2.2], hxs.1, hxs.2.1⟩
      rw [arr2 hp, arr2 hts] at ho
      exact does_copy (A := fun y => unbs (A y)) hI (fun y => unbs_rep (hA y)) ho h
    · cases h
  · cases h

/-! ### Literals -/
def unlit : AV → AV
  | .lit _ sz gs => .lst sz gs
  | x => x
theorem unlit_rep {x : AV} {v : Value} (h : Rep w H β x v) : Rep w H β (unlit x) v := by
  unfold unlit
  split
  · cases h with
    | lit _ _ _ _ h _ => exact h
  · exact h
def isConst : Operand → Bool
  | .const _ => true
  | _ => false
def constParts (ps : Array (Nat × Operand)) : Bool := ps.toList.all fun p => isConst p.2
def relit (b : Nat) : AV × List Box → AV × List Box
  | (.lst sz gs, H) => (.lit b sz gs, H)
  | r => r
def isBytes (P : Program) (s : TypeId) : Bool := match P.underlying s with
  | some (.slice e) => match P.underlying e with
    | some (.int .u8) => true
    | _ => false
  | _ => false
def litConv (P : Program) (b : Nat) (s d : TypeId) : AV → Bool
  | .lit n _ _ => n == b && (s == d && isBytes P s)
  | _ => false
def aop (P : Program) (ty : TypeId) (b : Nat) (A : Operand → AV) (H : List Box) (op : Op) : Option (AV × List Box) :=
  match op with
  | .buildSlice t n ps => bif constParts ps then (aopU P ty (fun x => unlit (A x)) H (.buildSlice t n ps)).map (relit b) else aopU P ty (fun x => unlit (A x)) H (.buildSlice t n ps)
  | .convert s d x => bif litConv P b s d (A x) then some (unlit (A x), H) else aopU P ty (fun x => unlit (A x)) H (.convert s d x)
  | op => aopU P ty (fun x => unlit (A x)) H op

theorem freeze_cell (w : World) (a b : Addr) (n : Nat) : (w.freeze a n).cell? b = w.cell? b := by
  unfold World.freeze
  split
  · rfl
  · unfold World.cell?
    simp only [Array.getElem?_modify]
    by_cases h : a.block = b.block
    · rw [if_pos h]
      cases w.heap[b.block]? with
      | none => rfl
      | some o => cases o <;> rfl
    · rw [if_neg h]
theorem mark_inv {k s : Nat} {c : Array Value} {e : TypeId} {fr : Nat × Nat} (hI : Inv base w H β) (hk : w.heap[k]? = some (.cells c e fr)) (hb : base ≤ k) (hw : ∀ y, ¬ Wr H β k y) :
    Inv base (w.freeze ⟨k, s, none⟩ 1) H β ∧ Stp base w H β (w.freeze ⟨k, s, none⟩ 1) H β := by
  have hheap : ∀ k', k' ≠ k → (w.freeze ⟨k, s, none⟩ 1).heap[k']? = w.heap[k']? := fun k' h => by
    unfold World.freeze
    rw [if_neg (by decide)]
    simp only [Array.getElem?_modify, if_neg (Ne.symm h)]
  have hsz : (w.freeze ⟨k, s, none⟩ 1).heap.size = w.heap.size := by
    unfold World.freeze
    rw [if_neg (by decide)]
    simp
  have hst : Stp base w H β (w.freeze ⟨k, s, none⟩ 1) H β := by
    refine ⟨by unfold World.freeze; split <;> rfl, by unfold World.freeze; split <;> rfl, by unfold World.freeze; split <;> rfl, Nat.le_of_eq hsz.symm, fun k' c' e' fr' h => ?_, fun k' o h ho => ?_, fun k' x _ _ => freeze_cell _ _ _ _, fun _ _ _ h => h, fun i bi hi => ⟨bi, hi, Nat.le_refl _, fun _ => rfl⟩⟩
    · by_cases hkk : k' = k
      · subst hkk
        rw [hk] at h
        injection h with h
        injection h with h1 h2 h3
        subst h1; subst h2; subst h3
        have hm : ∃ fr', (w.freeze ⟨k', s, none⟩ 1).heap[k']? = some (.cells c e fr') ∧ True := by
          obtain ⟨lo, hi⟩ := fr
          unfold World.freeze
          rw [if_neg (by decide)]
          simp only [Array.getElem?_modify, if_true, hk, Option.map_some]
          exact ⟨_, rfl, trivial⟩
        obtain ⟨fr', hm⟩ := hm
        exact ⟨c, fr', hm.1, rfl, fun hh => by omega, fun _ ⟨y, hy⟩ => absurd hy (hw y)⟩
      · exact ⟨c', fr', by rw [hheap _ hkk]; exact h, rfl, fun _ => rfl, fun h _ => h⟩
    · by_cases hkk : k' = k
      · subst hkk
        rw [hk] at h
        injection h with h
        exact absurd h.symm (ho c e fr)
      · rw [hheap _ hkk]; exact h
  refine ⟨⟨hI.bseS hst, hI.ro, hI.virt, fun i bx k' s' h h' => by rw [hsz]; exact hI.real i bx k' s' h h', fun i bx k' s' h h' j c' hj => ?_, fun k' x h hcx => ?_, hI.apart⟩, hst⟩
  · obtain ⟨x, g1, g2, g3⟩ := hI.cells i bx k' s' h h' j c' hj
    exact ⟨x, by rw [freeze_cell]; exact g1, g2, g3.stp hst⟩
  · have hkk : k' ≠ k := fun e => hw x (e ▸ h)
    have := hI.free k' x h (by rw [freeze_cell] at hcx; exact hcx)
    unfold World.frozen? at this ⊢
    dsimp only at this ⊢
    rw [hheap _ hkk]
    exact this

theorem does_litConv (hI : Inv base w H β) {x : Operand} {t : TypeId} (ho : o.op = .convert t t x) {sz : Nat} {gs : List (List AV)} (hx : Rep w H β (.lit base sz gs) (ρ x)) (hb : isBytes P t = true) : Does P ρ o base w H β (.lst sz gs) H := by
  unfold isBytes at hb
  split at hb
  · rename_i e ht
    split at hb
    · rename_i he
      generalize hv : ρ x = v at hx
      cases hx with
      | lit _ _ _ _ h hk =>
        obtain ⟨k, s, m, cap, rfl, h1, h2, h3⟩ := hk
        cases hh : w.shape? k with
        | none =>
          refine .same hI (v := .slice (some ⟨k, s, none⟩) m cap) ?_ h
          simp [execOp, ho, hv, convert, run_underlying ht, run_underlying he, markStringish, hh]
        | some p =>
          obtain ⟨e', n⟩ := p
          have hcells : ∃ c e fr, w.heap[k]? = some (.cells c e fr) := by
            unfold World.shape? at hh
            split at hh
            · rename_i c e fr h4; exact ⟨c, e, fr, h4⟩
            · cases hh
          obtain ⟨c, e'', fr, h4⟩ := hcells
          obtain ⟨g1, g2⟩ := mark_inv (s := n) hI h4 h1 h3
          refine ⟨.slice (some ⟨k, s, none⟩) m cap, _, β, .inl ?_, g1, g2, h.stp g2⟩
          simp [execOp, ho, hv, convert, run_underlying ht, run_underlying he, markStringish, hh]
    · cases hb
  · cases hb

theorem aop_sound (hI : Inv base w H β) (hA : ∀ x, Rep w H β (A x) (ρ x)) {r : AV} {H' : List Box} (h : aop P o.type base A H o.op = some (r, H')) : Does P ρ o base w H β r H' := by
  have hA' : ∀ x, Rep w H β (unlit (A x)) (ρ x) := fun x => unlit_rep (hA x)
  unfold aop at h
  split at h
  · rename_i t n ps ho
    cases hc : constParts ps with
    | false =>
      rw [hc, cond_false] at h
      exact aopU_sound hI hA' (by rw [ho]; exact h)
    | true =>
      rw [hc, cond_true] at h
      obtain ⟨⟨r1, H1⟩, h1, h2⟩ := Option.map_eq_some_iff.1 h
      obtain ⟨h3, rfl⟩ := withH_some h1
      obtain ⟨v, w', β', g1, g2, g3, g4, g5⟩ := does_buildSlice hI hA' ho h3
      unfold relit at h2
      split at h2
      · rename_i sz gs H2 heq
        injection heq with e1 e2
        injection h2 with e3 e4
        subst e1; subst e2; subst e3; subst e4
        exact ⟨v, w', β', .inl g1, g2, g3, g5 _ _ rfl⟩
      · injection h2 with e3 e4
        subst e3; subst e4
        exact ⟨v, w', β', .inl g1, g2, g3, g4⟩
  · rename_i s d x ho
    cases hc : litConv P base s d (A x) with
    | false =>
      rw [hc, cond_false] at h
      exact aopU_sound hI hA' (by rw [ho]; exact h)
    | true =>
      rw [hc, cond_true] at h
      injection h with h
      injection h with e1 e2
      subst e1; subst e2
      have hx := hA x
      unfold litConv at hc
      split at hc
      · rename_i n sz gs hAx
        simp only [Bool.and_eq_true, beq_iff_eq] at hc
        obtain ⟨rfl, rfl, hb⟩ := hc
        rw [hAx] at hx ⊢
        exact does_litConv hI ho hx hb
      · cases hc
  · exact aopU_sound hI hA' h
end

end Go.Proofs.YtnlmdeeadldgmaaGreatDoor.VL

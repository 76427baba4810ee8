/- The value logic, part 9: states, calls, what code does. -/
import Derived.Test.YtnlmdeeadldgmaaGreatDoorZVLWp
import Derived.Deep.LoopGhost
set_option linter.unusedVariables false
set_option linter.unusedSimpArgs false
namespace Go.Proofs.YtnlmdeeadldgmaaGreatDoor.VL
open Go Go.RowKit Go.Lib

/-! ### States -/
structure ASt where
  tmps : List (Nat × AV)
  H : List Box

def lk : List (Nat × AV) → Nat → AV
  | [], _ => .dead
  | (k, v) :: r, n => bif k == n then v else lk r n
theorem lk_cons (k : Nat) (v : AV) (r : List (Nat × AV)) (n : Nat) : lk ((k, v) :: r) n = if k = n then v else lk r n := by
  by_cases h : k = n
  · simp [lk, h]
  · have : (k == n) = false := by simp [h]
    simp [lk, h, this]
def put (l : List (Nat × AV)) : Option Tmp → AV → List (Nat × AV)
  | some d, v => (d, v) :: l
  | none, _ => l
theorem lk_put_same (l : List (Nat × AV)) (d : Nat) (v : AV) : lk (put l (some d) v) d = v := by simp [put, lk_cons]
theorem lk_put_ne (l : List (Nat × AV)) {d n : Nat} (v : AV) (h : d ≠ n) : lk (put l (some d) v) n = lk l n := by simp [put, lk_cons, h]

def cst : Value → AV
  | .agg cs => .agg (cs.toList.map zcell)
  | x => zcell x
theorem rep_cst {w : World} {H : List Box} {β : Pl} (x : Value) : Rep w H β (cst x) x := by
  unfold cst
  split
  · rename_i cs
    refine .agg _ _ (by simp) fun i c x h1 h2 => ?_
    simp only [List.getElem?_map, Array.getElem?_toList, h2, Option.map_some, Option.some.injEq] at h1
    subst h1
    exact rep_zcell x
  · exact rep_zcell _

/-- The address of a package variable: of a row that is only read, where the text lays it. -/
def glb (g : Nat) : AV := match gvals g with
  | [] => .v (.pointer (some ⟨g, 0, none⟩))
  | v :: r => .elt (.v v :: r.map .v) 0
theorem rep_glb {base : Nat} {w : World} {H : List Box} {β : Pl} (hI : Inv base w H β) (g : Nat) : Rep w H β (glb g) (.pointer (some ⟨g, 0, none⟩)) := by
  unfold glb
  split
  · exact .v _
  · rename_i v r h
    have hget : ∀ (j : Nat) (c : AV), (AV.v v :: r.map .v)[j]? = some c → ∃ y, (gvals g)[j]? = some y ∧ c = .v y := fun j c hj => by
      rw [← List.map_cons (f := AV.v), List.getElem?_map, ← h] at hj
      obtain ⟨y, h1, h2⟩ := Option.map_eq_some_iff.1 hj
      exact ⟨y, h1, h2.symm⟩
    refine .elt _ 0 g 0 (fun j => ((gvals g)[j]?).getD undef) (fun j c hj => ?_) (fun j c hj => ?_)
    · obtain ⟨y, h1, _⟩ := hget j c hj
      obtain ⟨g1, g2, g3⟩ := hI.bse.glob g j y h1
      rw [Nat.zero_add]
      simp only [h1, Option.getD_some]
      exact ⟨g2, g3, fun hw => by have := hI.low hw; omega⟩
    · obtain ⟨y, h1, rfl⟩ := hget j c hj
      simp only [h1, Option.getD_some]
      exact .v _
def aeval (l : List (Nat × AV)) : Operand → AV
  | .tmp t => lk l t
  | .const v => cst v
  | .global g => glb g
  | .func f => .fn f []

/-- Where a function began: what it may not touch, how many slots it has, the world and the boxes of its caller. -/
structure Ent where
  base : Nat
  n : Nat
  w : World
  H : List Box
  β : Pl
  inv : Inv base w H β
  ds : List Deferred

/-- A state of the model is what an abstract one says. -/
structure SimB (E : Ent) (σ : ASt) (β : Pl) (a : Act) (w : World) : Prop where
  defers : a.defers = E.ds
  size : a.tmps.size = E.n
  inv : Inv E.base w σ.H β
  stp : Stp E.base E.w E.H E.β w σ.H β
  tmps : ∀ k, Rep w σ.H β (lk σ.tmps k) (a.tmps.getD k undef)
def Sim (E : Ent) (σ : ASt) (a : Act) (w : World) : Prop := ∃ β, SimB E σ β a w

theorem SimB.eval {E : Ent} {σ : ASt} {β : Pl} {a : Act} {w : World} (h : SimB E σ β a w) (x : Operand) : Rep w σ.H β (aeval σ.tmps x) (a.eval x) := by
  cases x with
  | tmp t => exact h.tmps t
  | const v => exact rep_cst v
  | global g => exact rep_glb h.inv g
  | func f => exact .fn f [] #[] rfl (by simp)

def dstOk (E : Ent) : Option Tmp → Prop
  | some d => d < E.n
  | none => True

theorem SimB.put {E : Ent} {σ : ASt} {β β' : Pl} {a : Act} {w w' : World} {H' : List Box} (h : SimB E σ β a w) (d : Option Tmp) (hd : dstOk E d) {r : AV} {v : Value} (hI : Inv E.base w' H' β') (hs : Stp E.base w σ.H β w' H' β') (hr : Rep w' H' β' r v) :
    SimB E ⟨VL.put σ.tmps d r, H'⟩ β' (a.put d v) w' := by
  refine ⟨?_, ?_, hI, h.stp.trans hs, fun k => ?_⟩
  · cases d <;> exact h.defers
  · cases d with
    | none => exact h.size
    | some d => simp [Act.put, h.size]
  · cases d with
    | none => exact (h.tmps k).stp hs
    | some d =>
      simp only [dstOk] at hd
      by_cases hk : d = k
      · subst hk
        rw [lk_put_same]
        have : (a.put (some d) v).tmps.getD d undef = v := by
          simp [Act.put, h.size, hd]
        rw [this]
        exact hr
      · rw [lk_put_ne _ _ hk]
        have : (a.put (some d) v).tmps.getD k undef = a.tmps.getD k undef := by
          simp [Act.put, Array.getElem?_setIfInBounds_ne hk]
        rw [this]
        exact (h.tmps k).stp hs

/-! ### Calls -/
inductive Out where
  | ret (r : AV)
  | pan (r : AV)

def EndRep (w : World) (H : List Box) (β : Pl) : Ending → Out → Prop
  | .returned v, .ret r => Rep w H β r v
  | .panicked chain, .pan r => ∃ v, chain = [{ v, recovered := false }] ∧ Rep w H β r v
  | _, _ => False

def Reps (w : World) (H : List Box) (β : Pl) (cs : List AV) (vs : Array Value) : Prop := cs.length = vs.size ∧ ∀ (i : Nat) (c : AV) (x : Value), cs[i]? = some c → vs[i]? = some x → Rep w H β c x

def enters (P : Program) (f : FuncId) : Prop := ∀ (args : Array Value) (w : World), (callFunc f args).run P w = .ok (.enter f args) w

/-- A call of a function: one with a body is entered; one without yields a value. -/
def Invokes (P : Program) (f : FuncId) (vs : Array Value) (w : World) (Q : Ending → World → Prop) : Prop :=
  ((callFunc f vs).run P w = .ok (.enter f vs) w ∧ Calls P f vs w Q) ∨ ∃ v w', (callFunc f vs).run P w = .ok (.value v) w' ∧ Q (.returned v) w'
theorem Invokes.mono {P : Program} {f : FuncId} {vs : Array Value} {w : World} {Q Q' : Ending → World → Prop} (h : Invokes P f vs w Q) (hq : ∀ e w', Q e w' → Q' e w') : Invokes P f vs w Q' := by
  rcases h with ⟨h1, h2⟩ | ⟨v, w', h1, h2⟩
  · exact .inl ⟨h1, h2.mono hq⟩
  · exact .inr ⟨v, w', h1, hq _ _ h2⟩
/-- A call's outcome is one that K takes. -/
def acall (P : Program) (base : Nat) (f : FuncId) (args : List AV) (H : List Box) (K : Out → List Box → Prop) : Prop :=
  ∀ (w : World) (β : Pl) (vs : Array Value), Inv base w H β → Reps w H β args vs →
    Invokes P f vs w (fun e w' => ∃ out H' β', K out H' ∧ EndRep w' H' β' e out ∧ Inv base w' H' β' ∧ Stp base w H β w' H' β')

theorem acall.mono {P : Program} {base : Nat} {f : FuncId} {args : List AV} {H : List Box} {K K' : Out → List Box → Prop} (h : acall P base f args H K) (hK : ∀ o H', K o H' → K' o H') : acall P base f args H K' :=
  fun w β vs hI hr => (h w β vs hI hr).mono fun e w' ⟨out, H', β', h1, h2⟩ => ⟨out, H', β', hK _ _ h1, h2⟩

/-- The contract of a function, whoever calls it. -/
def ASpec (P : Program) (f : FuncId) (args : List AV) (H : List Box) (K : Out → List Box → Prop) : Prop := ∀ base, acall P base f args H K

theorem ASpec.use {P : Program} {base : Nat} {f : FuncId} {args : List AV} {H : List Box} {K K' : Out → List Box → Prop} (h : ASpec P f args H K) (hK : ∀ o H', K o H' → K' o H') : acall P base f args H K' := (h base).mono hK

/-! ### Operations in a row -/
inductive AExit where
  | normal
  | exit (id : Nat)
  | goto (l : Nat)
  | ret
  | panic (r : AV)

def lift (E : Ent) (Q : AExit → ASt → Prop) : Exit → Act → World → Prop
  | .normal, a, w => ∃ σ, Q .normal σ ∧ Sim E σ a w
  | .exit id, a, w => ∃ σ, Q (.exit id) σ ∧ Sim E σ a w
  | .goto l, a, w => ∃ σ, Q (.goto l) σ ∧ Sim E σ a w
  | .ret, a, w => ∃ σ, Q .ret σ ∧ Sim E σ a w
  | .panic chain, a, w => ∃ σ r v β, Q (.panic r) σ ∧ chain = [{ v, recovered := false }] ∧ SimB E σ β a w ∧ Rep w σ.H β r v
  | .outgrown, _, _ => False

/-- What an operation of the region has yielded, as its guard's users see it. -/
def aflag : AV → Option (Option Bool)
  | .v (.bool b) => some (some b)
  | .v (.tuple _) => some none
  | _ => none
def ayield (ops : Array Oper) (l : List (Nat × AV)) (j : Nat) : Option (Option Bool) :=
  match (ops[j]?).bind (·.dst) with
  | some d => aflag (lk l d)
  | none => none
theorem yielded_flag {w : World} {H : List Box} {β : Pl} {x : AV} {y : Option Bool} {ops : Array Oper} {tmps : Array Value} {j d : Nat} (hd : (ops[j]?).bind (·.dst) = some d) (hr : Rep w H β x (tmps.getD d undef)) (h : aflag x = some y) : yielded ops tmps j = y := by
  unfold yielded
  rw [hd]
  unfold aflag at h
  split at h
  · rename_i b
    injection h with h
    subst h
    simp only [Option.bind_some]
    cases hq : tmps[d]? with
    | none =>
      have hu : tmps.getD d undef = undef := by simp [hq]
      rw [hu] at hr
      cases hr
    | some v =>
      have hu : tmps.getD d undef = v := by simp [hq]
      rw [hu] at hr
      cases hr
      rfl
  · rename_i a
    injection h with h
    subst h
    simp only [Option.bind_some]
    cases hq : tmps[d]? with
    | none => rfl
    | some v =>
      have hu : tmps.getD d undef = v := by simp [hq]
      rw [hu] at hr
      cases hr
      rfl
  · cases h

/-- May a slice be nil? Only an empty one. -/
def nilIf (H : List Box) : AV → Option (Bool → Prop)
  | .lst _ gs => some fun t => t = true → gs = []
  | .emp => some fun _ => True
  | .sl b g _ n _ _ => if live H b g then some fun t => t = true → n = 0 else none
  | _ => none
def isSl (P : Program) (t : TypeId) : Bool := match P.underlying t with | some (.slice _) => true | _ => false

/-- One operation, whatever its guard, and what is asked of the state behind it. -/
def aone (P : Program) (E : Ent) (Q : AExit → ASt → Prop) (o : Oper) (K : ASt → Prop) (σ : ASt) : Prop :=
  dstOk E o.dst ∧
  match o.op with
  | .call { callee := .value f, args, .. } =>
    match aeval σ.tmps f with
    | .fn fid caps => acall P E.base fid (args.toList.map (fun x => unlit (aeval σ.tmps x)) ++ caps) σ.H fun out H' =>
        match out with
        | .ret r => K ⟨put σ.tmps o.dst r, H'⟩
        | .pan r => Q (.panic r) ⟨σ.tmps, H'⟩
    | _ => False
  | .binOp .eql t x (.const (.slice none 0 0)) _ =>
    isSl P t = true ∧ match nilIf σ.H (unlit (aeval σ.tmps x)) with
    | some C => ∀ t : Bool, C t → K ⟨put σ.tmps o.dst (.v (.bool t)), σ.H⟩
    | none => False
  | .panic x => match aeval σ.tmps x with
    | .v (.iface t v) => Q (.panic (.v (.iface t v))) σ
    | _ => False
  | op =>
    match aop P o.type E.base (aeval σ.tmps) σ.H op with
    | some (r, H') => K ⟨put σ.tmps o.dst r, H'⟩
    | none => False

/-- An operation's two ways. -/
def Branch {α : Type} (t want : Bool) (x : α) (A B : α → Prop) : Prop := (t = want → A x) ∧ (¬ t = want → B x)
theorem branch_tt {α : Type} (x : α) (A B : α → Prop) : Branch true true x A B = A x := by simp [Branch]
theorem branch_ff {α : Type} (x : α) (A B : α → Prop) : Branch false false x A B = A x := by simp [Branch]
theorem branch_tf {α : Type} (x : α) (A B : α → Prop) : Branch true false x A B = B x := by simp [Branch]
theorem branch_ft {α : Type} (x : α) (A B : α → Prop) : Branch false true x A B = B x := by simp [Branch]
theorem Branch.split {α : Type} {t want : Bool} {x : α} {A B : α → Prop} (h1 : t = want → A x) (h2 : t = !want → B x) : Branch t want x A B := ⟨h1, fun h => h2 (by cases t <;> cases want <;> simp_all)⟩
/-- An operation is passed by. -/
def askip (E : Ent) (o : Oper) (K : ASt → Prop) (σ : ASt) : Prop := dstOk E o.dst ∧ K ⟨put σ.tmps o.dst (.v undef), σ.H⟩

/-- Operations in the text's order. -/
def aops (P : Program) (E : Ent) (ops : Array Oper) (Q : AExit → ASt → Prop) : List Oper → ASt → Prop
  | [], σ => Q .normal σ
  | o :: rest, σ =>
    match o.guard with
    | none => aone P E Q o (aops P E ops Q rest) σ
    | some (j, want) => match ayield ops σ.tmps j with
      | some (some t) => Branch t want σ (aone P E Q o (aops P E ops Q rest)) (askip E o (aops P E ops Q rest))
      | some none => askip E o (aops P E ops Q rest) σ
      | none => False

theorem yield_sim {E : Ent} {σ : ASt} {β : Pl} {a : Act} {w : World} (h : SimB E σ β a w) {ops : Array Oper} {j : Nat} {t : Option Bool} (hy : ayield ops σ.tmps j = some t) : yielded ops a.tmps j = t := by
  unfold ayield at hy
  cases hd : (ops[j]?).bind (·.dst) with
  | none => rw [hd] at hy; cases hy
  | some d => rw [hd] at hy; exact yielded_flag hd (h.tmps d) hy

theorem resolve_fn {P : Program} {w w' : World} {ρ : Operand → Value} {f : Operand} {args : Array Operand} {ts : Array TypeId} {t : TypeId} {fid : FuncId} {caps : Array Value} {n : Next} (hf : ρ f = .func (.func fid) #[] caps) (hen : (callFunc fid (args.map ρ ++ caps)).run P w = .ok n w') :
    ((do let d ← resolve ρ { callee := .value f, args, argTypes := ts } t; invoke d.target d.args : Sem Next)).run P w = .ok n w' := by
  simp [resolve, hf, Deferred.ofValue, invoke, hen]
/-- An operation that calls. -/
theorem call_upon {P : Program} {o : Oper} {ρ : Operand → Value} {w : World} {a : Act} {f : Operand} {args : Array Operand} {ts : Array TypeId} {fid : FuncId} {caps : Array Value} {K' : Act → World → Prop} {Q' : Exit → Act → World → Prop} {R : Ending → World → Prop}
    (ho : o.op = .call { callee := .value f, args, argTypes := ts }) (hf : ρ f = .func (.func fid) #[] caps) (h : Invokes P fid (args.map ρ ++ caps) w R)
    (hr : ∀ v w', R (.returned v) w' → K' (a.put o.dst v) w') (hp : ∀ c w', R (.panicked c) w' → Q' (.panic c) a w') (hx : ∀ w', ¬ R .outgrown w') :
    o.upon P a K' Q' ((execOp ρ o).run P w) := by
  rcases h with ⟨h1, h2⟩ | ⟨v, w', h1, h2⟩
  · have hrun : (execOp ρ o).run P w = .ok (.enter fid (args.map ρ ++ caps)) w := by
      unfold execOp
      rw [ho]
      exact resolve_fn hf h1
    rw [hrun, Oper.upon_enter]
    refine h2.mono fun e w' he => ?_
    cases e with
    | returned v => exact hr v w' he
    | panicked c => exact hp c w' he
    | outgrown => exact absurd he (hx w')
  · have hrun : (execOp ρ o).run P w = .ok (.value v) w' := by
      unfold execOp
      rw [ho]
      exact resolve_fn hf h1
    rw [hrun, Oper.upon_value]
    exact hr v w' h2

theorem run_equal_nil {P : Program} {w : World} {t : TypeId} (h : isSl P t = true) (a : Option Addr) (n c : Nat) : (Op.equal t (.slice a n c) (.slice none 0 0)).run P w = .ok a.isNone w := by
  unfold isSl at h
  split at h
  · rename_i e hu
    have : (Op.equalIn (9999 + 1) t (.slice a n c) (.slice none 0 0)).run P w = .ok a.isNone w := by
      rw [Op.equalIn]
      cases a <;> simp only [Sem.run_bind, run_underlying hu, Result.andThen_ok, Sem.run_pure, Option.isNone]
    exact this
  · cases h
theorem nilIf_rep {w : World} {H : List Box} {β : Pl} {x : AV} {v : Value} {C : Bool → Prop} (h : nilIf H x = some C) (hr : Rep w H β x v) : ∃ a n c, v = .slice a n c ∧ C a.isNone := by
  unfold nilIf at h
  split at h
  · injection h with h
    subst h
    cases hr with
    | lst0 _ a cap => exact ⟨a, 0, cap, rfl, fun _ => rfl⟩
    | lst _ gs k s cap y hn hg hc hrr => exact ⟨_, _, _, rfl, fun h => by simp at h⟩
  · injection h with h
    subst h
    cases hr with
    | emp a => exact ⟨a, 0, 0, rfl, trivial⟩
  · split at h
    · rename_i hl
      injection h with h
      subst h
      obtain ⟨bx, h1, h2, a, cap, rfl, h4, h5, h6⟩ := live_sl hl hr
      refine ⟨a, _, cap, rfl, fun h => ?_⟩
      rcases Nat.eq_zero_or_pos cap with h0 | h0
      · omega
      · obtain ⟨k, s, c, e, fr, f1, f2, _⟩ := h6 h0
        subst f2
        simp at h
    · cases h
  · cases h

theorem aone_sound {P : Program} {E : Ent} {Q : AExit → ASt → Prop} {o : Oper} {K : ASt → Prop} {σ : ASt} (h : aone P E Q o K σ) {a : Act} {w : World} {β : Pl} (hs : SimB E σ β a w) {K' : Act → World → Prop} (hK : ∀ σ' a' w', K σ' → Sim E σ' a' w' → K' a' w') :
    o.wp P a w K' (lift E Q) := by
  obtain ⟨hd, h⟩ := h
  unfold Oper.wp
  have plain : ∀ r H', aop P o.type E.base (aeval σ.tmps) σ.H o.op = some (r, H') → K ⟨put σ.tmps o.dst r, H'⟩ → o.upon P a K' (lift E Q) ((execOp a.eval o).run P w) := fun r H' hop hk => by
    obtain ⟨v, w', β', hrun, hI', hst, hr⟩ := aop_sound (P := P) hs.inv hs.eval hop
    rcases hrun with hrun | ⟨hrun, rfl⟩
    · rw [hrun, Oper.upon_value]
      exact hK _ _ _ hk ⟨β', hs.put o.dst hd hI' hst hr⟩
    · rw [hrun, Oper.upon_skip]
      exact hK _ _ _ hk ⟨β', hs.put o.dst hd hI' hst hr⟩
  split at h
  · rename_i f args ts ho
    split at h
    · rename_i fid caps hf
      have hfr := hs.eval f
      rw [hf] at hfr
      generalize hv : a.eval f = fv at hfr
      cases hfr with
      | fn _ _ vs hl hr =>
        refine call_upon ho hv (h w β _ hs.inv ⟨by simp [hl], fun i c x h1 h2 => ?_⟩) ?_ ?_ ?_
        · by_cases hi : i < args.size
          · rw [List.getElem?_append_left (by simpa using hi)] at h1
            rw [Array.getElem?_append_left (by simpa using hi)] at h2
            simp only [List.getElem?_map, Array.getElem?_toList, Array.getElem?_eq_getElem hi, Option.map_some, Option.some.injEq] at h1
            simp only [Array.getElem?_map, Array.getElem?_eq_getElem hi, Option.map_some, Option.some.injEq] at h2
            subst h1; subst h2
            exact unlit_rep (hs.eval _)
          · rw [List.getElem?_append_right (by simp; omega)] at h1
            rw [Array.getElem?_append_right (by simp; omega)] at h2
            simp only [List.length_map, Array.length_toList] at h1
            simp only [Array.size_map] at h2
            exact hr _ c x h1 h2
        · rintro v w' ⟨out, H', β', k1, k2, k3, k4⟩
          cases out with
          | ret r => exact hK _ _ _ k1 ⟨β', hs.put o.dst hd k3 k4 k2⟩
          | pan r => exact k2.elim
        · rintro c w' ⟨out, H', β', k1, k2, k3, k4⟩
          cases out with
          | ret r => exact k2.elim
          | pan r =>
            obtain ⟨v, e1, e2⟩ := k2
            have := hs.put none trivial k3 k4 e2
            exact ⟨_, r, v, β', k1, e1, this, e2⟩
        · rintro w' ⟨out, H', β', k1, k2, k3, k4⟩
          cases out <;> exact k2.elim
    · exact h.elim
  · rename_i t x yt ho
    obtain ⟨hsl, h⟩ := h
    split at h
    · rename_i C hC
      obtain ⟨a', n, c, hv, hc⟩ := nilIf_rep hC (unlit_rep (hs.eval x))
      have hrun : (execOp a.eval o).run P w = .ok (.value (.bool a'.isNone)) w := by
        have hcn : a.eval (.const (.slice none 0 0)) = .slice none 0 0 := rfl
        have hgd : ∀ w, (eqGuard .eql t x (.const (.slice none 0 0)) (.slice a' n c) (.slice none 0 0)).run P w = .ok () w := fun _ => rfl
        have hbo : (Go.binOp .eql t (.slice a' n c) (.slice none 0 0)).run P w = .ok (.bool a'.isNone) w := by
          simp only [Go.binOp, Sem.run_bind, run_equal_nil hsl, Result.andThen_ok, Sem.run_pure]
        simp only [execOp, ho, hv, hcn, Sem.run_bind, hgd, hbo, Result.andThen_ok, Sem.run_pure]
      rw [hrun, Oper.upon_value]
      exact hK _ _ _ (h _ hc) ⟨β, hs.put o.dst hd hs.inv (Stp.refl _ _ _) (.v _)⟩
    · exact h.elim
  · rename_i x ho
    split at h
    · rename_i t v hx
      have hr := hs.eval x
      rw [hx] at hr
      generalize hv : a.eval x = fv at hr
      cases hr
      have hrun : (execOp a.eval o).run P w = .halt (.panic (.iface t v)) w := by
        simp [execOp, ho, hv]; rfl
      rw [hrun]
      exact ⟨σ, _, _, β, h, rfl, hs, .v _⟩
    · exact h.elim
  · split at h
    · rename_i r H' hop
      exact plain r H' hop h
    · exact h.elim

theorem aops_sound {P : Program} {E : Ent} {ops : Array Oper} {Q : AExit → ASt → Prop} : ∀ (l : List Oper) (σ : ASt), aops P E ops Q l σ → ∀ (a : Act) (w : World), Sim E σ a w → wpList P ops (lift E Q) l a w := by
  intro l
  induction l with
  | nil => intro σ h a w hs; exact ⟨σ, h, hs⟩
  | cons o rest ih =>
    intro σ h a w hs
    obtain ⟨β, hs⟩ := hs
    simp only [aops] at h
    unfold wpList
    split at h
    · rename_i hg
      rw [if_pos (by simp [Region.wanted, hg])]
      exact .inl (aone_sound h hs fun σ' a' w' k s => ih σ' k a' w' s)
    · rename_i j want hg
      split at h
      · rename_i t hy
        have hyy := yield_sim hs hy
        by_cases ht : t = want
        · rw [if_pos (by simp [Region.wanted, hg, hyy, ht])]
          exact .inl (aone_sound (h.1 ht) hs fun σ' a' w' k s => ih σ' k a' w' s)
        · rw [if_neg (by simp [Region.wanted, hg, hyy, ht])]
          obtain ⟨h1, h2⟩ := h.2 ht
          exact ih _ h2 _ _ ⟨β, hs.put o.dst h1 hs.inv (Stp.refl _ _ _) (.v _)⟩
      · rename_i hy
        have hyy := yield_sim hs hy
        rw [if_neg (by simp [Region.wanted, hg, hyy])]
        obtain ⟨h1, h2⟩ := h
        exact ih _ h2 _ _ ⟨β, hs.put o.dst h1 hs.inv (Stp.refl _ _ _) (.v _)⟩
      · exact h.elim

/-! ### Code -/
def AWP (P : Program) (E : Ent) (c : Code) (Q : AExit → ASt → Prop) (σ : ASt) : Prop := ∀ a w, Sim E σ a w → c.wp P (lift E Q) a w

section rules
variable {P : Program} {E : Ent} {Q : AExit → ASt → Prop} {σ : ASt}

theorem AWP.region {id : Nat} {ops : Array Oper} (h : aops P E ops Q ops.toList σ) : AWP P E (.region id ops false) Q σ := fun a w hs => wp_region_list (aops_sound _ _ h a w hs)

def AExit.then (N : ASt → Prop) (Q : AExit → ASt → Prop) : AExit → ASt → Prop
  | .normal, σ => N σ
  | e, σ => Q e σ
theorem lift_mono {Q Q' : AExit → ASt → Prop} (h : ∀ e σ, Q e σ → Q' e σ) {e : Exit} {a : Act} {w : World} (hl : lift E Q e a w) : lift E Q' e a w := by
  cases e with
  | panic chain => obtain ⟨σ, r, v, β, h1, h2⟩ := hl; exact ⟨σ, r, v, β, h _ _ h1, h2⟩
  | outgrown => exact hl
  | _ => obtain ⟨σ, h1, h2⟩ := hl; exact ⟨σ, h _ _ h1, h2⟩
theorem AWP.mono {c : Code} {Q Q' : AExit → ASt → Prop} (h : AWP P E c Q σ) (hq : ∀ e σ, Q e σ → Q' e σ) : AWP P E c Q' σ := fun a w hs => wp_mono (h a w hs) fun _ _ _ hl => lift_mono hq hl

theorem AWP.seq {x y : Code} (h : AWP P E x (AExit.then (AWP P E y Q) Q) σ) : AWP P E (.seq x y) Q σ := fun a w hs => by
  refine wp_seq (wp_mono (h a w hs) fun e a' w' hl => ?_)
  cases e with
  | normal => obtain ⟨σ', h1, h2⟩ := hl; exact h1 a' w' h2
  | panic chain => exact hl
  | outgrown => exact hl
  | _ => exact hl
theorem AWP.skip (h : Q .normal σ) : AWP P E .skip Q σ := fun a w hs => wp_skip ⟨σ, h, hs⟩
theorem AWP.label {l : Nat} (h : Q .normal σ) : AWP P E (.label l) Q σ := fun a w hs => wp_label ⟨σ, h, hs⟩
theorem AWP.exit {id : Nat} (h : Q (.exit id) σ) : AWP P E (.exit id) Q σ := fun a w hs => wp_exit ⟨σ, h, hs⟩
theorem AWP.goto {l : Nat} (h : Q (.goto l) σ) : AWP P E (.goto l) Q σ := fun a w hs => wp_goto ⟨σ, h, hs⟩
theorem AWP.ret (h : Q .ret σ) : AWP P E .ret Q σ := fun a w hs => wp_ret ⟨σ, h, hs⟩
theorem AWP.cond {c : Operand} {x y : Code} {t : Bool} (hc : aeval σ.tmps c = .v (.bool t)) (ht : t = true → AWP P E x Q σ) (hf : t = false → AWP P E y Q σ) : AWP P E (.cond c x y) Q σ := fun a w hs => by
  obtain ⟨β, hb⟩ := hs
  have := hb.eval c
  rw [hc] at this
  generalize hv : a.eval c = v at this
  cases this
  exact wp_cond_split hv (fun h => ht h a w ⟨β, hb⟩) (fun h => hf h a w ⟨β, hb⟩)
def AExit.inBlock (id : Nat) (Q : AExit → ASt → Prop) : AExit → ASt → Prop
  | .exit id', σ => if id' = id then Q .normal σ else Q (.exit id') σ
  | e, σ => Q e σ
theorem AWP.block {id : Nat} {c : Code} (h : AWP P E c (AExit.inBlock id Q) σ) : AWP P E (.block id c) Q σ := fun a w hs => by
  refine wp_block (wp_mono (h a w hs) fun e a' w' hl => ?_)
  cases e with
  | exit id' =>
    obtain ⟨σ', h1, h2⟩ := hl
    simp only [AExit.inBlock] at h1
    simp only [Exit.inBlock]
    split at h1
    · rename_i hh; rw [if_pos hh]; exact ⟨σ', h1, h2⟩
    · rename_i hh; rw [if_neg hh]; exact ⟨σ', h1, h2⟩
  | normal => exact hl
  | goto l => exact hl
  | ret => exact hl
  | panic chain => exact hl
  | outgrown => exact hl

/-- A state may be forgotten for another one. -/
def Coe (E : Ent) (σ σ' : ASt) : Prop := ∀ a w, Sim E σ a w → Sim E σ' a w
theorem Coe.refl (E : Ent) (σ : ASt) : Coe E σ σ := fun _ _ h => h
theorem Coe.trans {E : Ent} {σ σ' σ'' : ASt} (h : Coe E σ σ') (h' : Coe E σ' σ'') : Coe E σ σ'' := fun a w hs => h' a w (h a w hs)
theorem AWP.coe {c : Code} {σ' : ASt} (hc : Coe E σ σ') (h : AWP P E c Q σ') : AWP P E c Q σ := fun a w hs => h a w (hc a w hs)

def Keeps (l l' : List (Nat × AV)) : Prop := ∀ p ∈ l', lk l p.1 = p.2
theorem lk_keep {l l' : List (Nat × AV)} (h : Keeps l l') (k : Nat) : lk l' k = lk l k ∨ lk l' k = .dead := by
  induction l' with
  | nil => exact .inr rfl
  | cons p r ih =>
    obtain ⟨n, v⟩ := p
    simp only [lk_cons]
    split
    · rename_i hk
      subst hk
      exact .inl (h (n, v) (by simp)).symm
    · exact ih fun q hq => h q (by simp [hq])
theorem Coe.keep {l l' : List (Nat × AV)} {H : List Box} (h : Keeps l l') : Coe E ⟨l, H⟩ ⟨l', H⟩ := fun a w ⟨β, hs⟩ => ⟨β, ⟨hs.defers, hs.size, hs.inv, hs.stp, fun k => by
  rcases lk_keep h k with hk | hk
  · rw [hk]; exact hs.tmps k
  · rw [hk]; exact .dead _⟩⟩

/-- A loop, by an invariant: states that hang on a ghost. -/
theorem AWP.loop {ι : Type} {c : Code} (S : ι → ASt) (μ : ι → Nat) (i : ι) (h0 : Coe E σ (S i))
    (round : ∀ i, AWP P E c (AExit.then (fun σ' => ∃ i', Coe E σ' (S i') ∧ μ i' < μ i) Q) (S i)) : AWP P E (.loop c) Q σ := fun a w hs => by
  refine wp_loop_ghost (fun n a w => ∃ i, μ i = n ∧ Sim E (S i) a w) (μ i) ⟨i, rfl, h0 a w hs⟩ fun n a w ⟨i, hi, hs⟩ => ?_
  refine wp_mono (round i a w hs) fun e a' w' hl => ?_
  cases e with
  | normal =>
    obtain ⟨σ', ⟨i', hco, hlt⟩, hs'⟩ := hl
    exact ⟨μ i', by omega, i', rfl, hco _ _ hs'⟩
  | panic chain => exact hl
  | outgrown => exact hl
  | _ => exact hl

end rules
end Go.Proofs.YtnlmdeeadldgmaaGreatDoor.VL

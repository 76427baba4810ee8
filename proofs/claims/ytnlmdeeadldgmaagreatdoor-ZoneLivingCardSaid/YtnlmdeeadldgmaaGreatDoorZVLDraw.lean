/- The value logic, part 10: operations whose order is open: where each leaves the boxes alone, the text's order serves every order. -/
import Derived.Test.YtnlmdeeadldgmaaGreatDoorZVLCode
set_option linter.unusedVariables false
set_option linter.unusedSimpArgs false
namespace Go.Proofs.YtnlmdeeadldgmaaGreatDoor.VL
open Go Go.RowKit Go.Lib

abbrev Tmps := Nat → AV
def feval (T : Tmps) : Operand → AV
  | .tmp t => T t
  | .const v => cst v
  | .global g => glb g
  | .func f => .fn f []
def fput (T : Tmps) : Option Tmp → AV → Tmps
  | some d, v => fun k => if d = k then v else T k
  | none, _ => T
theorem feval_lk (l : List (Nat × AV)) : feval (lk l) = aeval l := by funext x; cases x <;> rfl
theorem fput_lk (l : List (Nat × AV)) (d : Option Tmp) (v : AV) : fput (lk l) d v = lk (put l d v) := by
  cases d with
  | none => rfl
  | some d => funext k; simp [fput, put, lk_cons]
theorem fput_comm (T : Tmps) {x y : Option Tmp} (v u : AV) (h : ∀ d, x = some d → y ≠ some d) : fput (fput T x v) y u = fput (fput T y u) x v := by
  cases x with
  | none => rfl
  | some d =>
    cases y with
    | none => rfl
    | some e =>
      have hne : d ≠ e := fun he => h d rfl (he ▸ rfl)
      funext k
      simp only [fput]
      by_cases h1 : e = k
      · subst h1; rw [if_pos rfl, if_neg hne, if_pos rfl]
      · rw [if_neg h1]
        by_cases h2 : d = k
        · rw [if_pos h2, if_pos h2]
        · rw [if_neg h2, if_neg h2, if_neg h1]
theorem feval_fput {T : Tmps} {d : Option Tmp} {v : AV} {x : Operand} (h : ∀ t, d = some t → x ≠ .tmp t) : feval (fput T d v) x = feval T x := by
  cases d with
  | none => rfl
  | some d =>
    cases x with
    | tmp t =>
      have : d ≠ t := fun e => h d rfl (e ▸ rfl)
      simp [feval, fput, this]
    | _ => rfl

theorem aopU_congr {P : Program} {ty : TypeId} {A A' : Operand → AV} {H : List Box} (op : Op) (h : ∀ x ∈ op.operands, A x = A' x) : aopU P ty A H op = aopU P ty A' H op := by
  have hparts : ∀ ps : Array (Nat × Operand), (∀ x ∈ (ps.toList.map (·.2)).toArray, A x = A' x) → parts A ps = parts A' ps := fun ps hp =>
    List.map_congr_left fun p hm => by
      rw [hp p.2 (by simp; exact ⟨p.1, by simpa using hm⟩)]
  cases op with
  | move x => simp only [aopU, h x (by simp [Op.operands])]
  | assign x => simp only [aopU, h x (by simp [Op.operands])]
  | pick c a b => simp only [aopU, h c (by simp [Op.operands]), h a (by simp [Op.operands]), h b (by simp [Op.operands])]
  | alloc t => rfl
  | box t x => simp only [aopU, h x (by simp [Op.operands])]
  | build t ps => simp only [aopU, abuild, hparts ps (fun x hx => h x (by simpa [Op.operands] using hx))]
  | buildSlice t n ps => simp only [aopU, abuildSlice, hparts ps (fun x hx => h x (by simpa [Op.operands] using hx))]
  | load t x => simp only [aopU, h x (by simp [Op.operands])]
  | store t x y => simp only [aopU, h x (by simp [Op.operands]), h y (by simp [Op.operands])]
  | nilCheck x => simp only [aopU, h x (by simp [Op.operands])]
  | binOp op t x y yt => simp only [aopU, h x (by simp [Op.operands]), h y (by simp [Op.operands])]
  | unOp op t x => simp only [aopU, h x (by simp [Op.operands])]
  | typeAssert x s t ok => simp only [aopU, h x (by simp [Op.operands])]
  | convert s d x => simp only [aopU, h x (by simp [Op.operands])]
  | makeSlice t x y => simp only [aopU, h x (by simp [Op.operands]), h y (by simp [Op.operands])]
  | slice t x lo hi mx =>
    have e1 : lo.map A = lo.map A' := by cases lo <;> simp_all [Op.operands]
    have e2 : hi.map A = hi.map A' := by cases hi <;> simp_all [Op.operands]
    have e3 : mx.map A = mx.map A' := by cases mx <;> simp_all [Op.operands]
    simp only [aopU, h x (by simp [Op.operands]), e1, e2, e3]
  | fieldAddr s x f => simp only [aopU, h x (by simp [Op.operands])]
  | field s x f => simp only [aopU, h x (by simp [Op.operands])]
  | indexAddr t x i => simp only [aopU, h x (by simp [Op.operands]), h i (by simp [Op.operands])]
  | index t x i => simp only [aopU, h x (by simp [Op.operands]), h i (by simp [Op.operands])]
  | extract x i => simp only [aopU, h x (by simp [Op.operands])]
  | lookup t m k ok => cases ok <;> simp only [aopU, h m (by simp [Op.operands]), h k (by simp [Op.operands])]
  | makeInterface t x => simp only [aopU, h x (by simp [Op.operands])]
  | makeFunc fn first cs =>
    have : acaps A cs = acaps A' cs := List.map_congr_left fun x hx => h x (by simp [Op.operands]; exact .inr (by simpa using hx))
    cases fn <;> simp only [aopU, this]
  | call c =>
    obtain ⟨callee, args, ts⟩ := c
    have : args.toList.map A = args.toList.map A' := List.map_congr_left fun x hx => h x (by simp [Op.operands, Call.operands]; exact .inr (by simpa using hx))
    cases callee <;> simp only [aopU, this]
  | _ => rfl

theorem aop_congr {P : Program} {ty : TypeId} {b : Nat} {A A' : Operand → AV} {H : List Box} (op : Op) (h : ∀ x ∈ op.operands, A x = A' x) : aop P ty b A H op = aop P ty b A' H op := by
  have h' : aopU P ty (fun x => unlit (A x)) H op = aopU P ty (fun x => unlit (A' x)) H op := aopU_congr op fun x hx => by rw [h x hx]
  unfold aop
  split
  · rw [h']
  · rename_i s d x
    rw [h', h x (by simp [Op.operands])]
  · exact h'

section
variable {P : Program} {E : Ent} {ops : Array Oper} {md : Region.Mode} {H : List Box}

def qyield (P : Program) (E : Ent) (H : List Box) (T : Tmps) (o : Oper) (r : AV) : Prop :=
  match o.op with
  | .call { callee := .value f, args, .. } =>
    ∃ fid caps, feval T f = .fn fid caps ∧ acall P E.base fid (args.toList.map (fun x => unlit (feval T x)) ++ caps) H fun out H' => out = .ret r ∧ H' = H
  | op => aop P o.type E.base (feval T) H op = some (r, H)

def yieldF (ops : Array Oper) (T : Tmps) (j : Nat) : Option (Option Bool) :=
  match (ops[j]?).bind (·.dst) with
  | some d => aflag (T d)
  | none => none
def wantedF (ops : Array Oper) (T : Tmps) (o : Oper) : Option Bool :=
  match o.guard with
  | none => some true
  | some (j, want) => (yieldF ops T j).map fun t => t == some want

/-- Operation o yields r, or is passed by. -/
def QY (P : Program) (E : Ent) (ops : Array Oper) (H : List Box) (o : Oper) (r : AV) (T : Tmps) : Prop :=
  dstOk E o.dst ∧ ((wantedF ops T o = some true ∧ qyield P E H T o r) ∨ (wantedF ops T o = some false ∧ r = .v undef))

theorem QY.congr {o : Oper} {r : AV} {T T' : Tmps} (h : QY P E ops H o r T) (hc : ∀ t ∈ o.looksAt ops, T' t = T t) : QY P E ops H o r T' := by
  have hop : ∀ x ∈ o.op.operands, feval T' x = feval T x := fun x hx => by
    cases x with
    | tmp t => exact hc t (by simp only [Oper.looksAt, List.mem_append, List.mem_filterMap]; exact .inl ⟨.tmp t, by simpa using hx, rfl⟩)
    | _ => rfl
  have hw : wantedF ops T' o = wantedF ops T o := by
    unfold wantedF
    split
    · rfl
    · rename_i j want hg
      have : yieldF ops T' j = yieldF ops T j := by
        unfold yieldF
        cases hd : (ops[j]?).bind (·.dst) with
        | none => rfl
        | some d =>
          have := hc d (by simp only [Oper.looksAt, hg, List.mem_append]; exact .inr (by rw [hd]; simp))
          simp only [this]
      rw [this]
  have hq : qyield P E H T o r → qyield P E H T' o r := fun hq => by
    unfold qyield at hq ⊢
    split at hq
    · rename_i f args ts ho
      obtain ⟨fid, caps, h1, h2⟩ := hq
      refine ⟨fid, caps, ?_, ?_⟩
      · rw [hop f (by simp [ho, Op.operands, Call.operands]), h1]
      · have : args.toList.map (fun x => unlit (feval T' x)) = args.toList.map (fun x => unlit (feval T x)) := List.map_congr_left fun x hx => congrArg unlit (hop x (by simp [ho, Op.operands, Call.operands]; exact .inr (by simpa using hx)))
        rw [this]; exact h2
    · rename_i ho
      rw [aop_congr (A := feval T') (A' := feval T) o.op hop]
      exact hq
  exact ⟨h.1, h.2.imp (fun ⟨a, b⟩ => ⟨by rw [hw]; exact a, hq b⟩) fun ⟨a, b⟩ => ⟨by rw [hw]; exact a, b⟩⟩

theorem fput_looks {o o' : Oper} {T : Tmps} {v : AV} (h : ∀ d, o'.dst = some d → d ∉ o.looksAt ops) : ∀ t ∈ o.looksAt ops, fput T o'.dst v t = T t := fun t ht => by
  cases hd : o'.dst with
  | none => rfl
  | some d =>
    have : d ≠ t := fun e => h d hd (e ▸ ht)
    simp [fput, this]

def qOpF (P : Program) (E : Ent) (ops : Array Oper) (H : List Box) (i : Nat) (K : Tmps → Prop) (T : Tmps) : Prop :=
  match ops[i]? with
  | none => K T
  | some o => ∃ r, QY P E ops H o r T ∧ K (fput T o.dst r)

theorem qOpF_mono {i : Nat} {T : Tmps} {K K' : Tmps → Prop} (h : ∀ T, K T → K' T) (hh : qOpF P E ops H i K T) : qOpF P E ops H i K' T := by
  unfold qOpF at *
  split
  · exact h _ (by simpa [*] using hh)
  · rename_i o ho
    simp only [ho] at hh
    obtain ⟨r, h1, h2⟩ := hh
    exact ⟨r, h1, h _ h2⟩

def wpAnyF (P : Program) (E : Ent) (md : Region.Mode) (ops : Array Oper) (H : List Box) (Q : Tmps → Prop) : Nat → Array Bool → Tmps → Prop
  | 0, listed, T => Region.ready md ops listed = [] ∧ Q T
  | fuel + 1, listed, T =>
    (Region.ready md ops listed = [] → Q T) ∧
    ∀ i ∈ Region.ready md ops listed, qOpF P E ops H i (wpAnyF P E md ops H Q fuel (listed.setIfInBounds i true)) T

theorem QY.qOp {i : Nat} {o : Oper} {r : AV} {T : Tmps} (hi : ops[i]? = some o) (hy : QY P E ops H o r T) {K : Tmps → Prop} (h : K (fput T o.dst r)) : qOpF P E ops H i K T := by
  unfold qOpF
  simp only [hi]
  exact ⟨r, hy, h⟩

theorem qOpF_put {j : Nat} {oi oj : Oper} {r : AV} (hj : ops[j]? = some oj) (hap : oi.apart ops oj = true) {K : Tmps → Prop} {T : Tmps}
    (hy : QY P E ops H oi r T) (h : qOpF P E ops H j K (fput T oi.dst r)) : qOpF P E ops H j (fun T' => QY P E ops H oi r T' ∧ K (fput T' oi.dst r)) T := by
  obtain ⟨h1, h2, h3⟩ := Oper.apart_spec hap
  unfold qOpF at *
  simp only [hj] at *
  obtain ⟨u, hu, hk⟩ := h
  refine ⟨u, hu.congr fun t ht => (fput_looks h1 t ht).symm, hy.congr (fput_looks h3), ?_⟩
  rw [← fput_comm T r u h2]
  exact hk

theorem wpAnyF_first {Q : Tmps → Prop} {i : Nat} {oi : Oper} {v : AV} (hi : ops[i]? = some oi) :
    ∀ (fuel : Nat) (listed : Array Bool) (a : Tmps),
      (∀ j oj, ops[j]? = some oj → j ≠ i → listed.getD j true = false → (∀ e ∈ oj.after, Region.binds md e = true → e.on ≠ i) → oi.apart ops oj = true) →
      i ∈ Region.ready md ops listed → QY P E ops H oi v a →
      wpAnyF P E md ops H Q fuel (listed.setIfInBounds i true) (fput a oi.dst v) → wpAnyF P E md ops H Q (fuel + 1) listed a := by
  intro fuel
  induction fuel with
  | zero =>
    intro listed a _ hr hy HH
    refine ⟨fun h => (by rw [h] at hr; cases hr), fun j hj => ?_⟩
    by_cases hji : j = i
    · subst hji; exact hy.qOp hi HH
    · have := ready_mono hj hji
      rw [HH.1] at this
      cases this
  | succ fuel ih =>
    intro listed a hfree hr hy HH
    refine ⟨fun h => (by rw [h] at hr; cases hr), fun j hj => ?_⟩
    by_cases hji : j = i
    · subst hji; exact hy.qOp hi HH
    · have h1 := HH.2 j (ready_mono hj hji)
      obtain ⟨hjun, oj, hoj, hall⟩ := mem_ready.1 hj
      have hnot : ∀ e ∈ oj.after, Region.binds md e = true → e.on ≠ i := fun e he hb heq => by
        have h1 := hall e he hb
        have h0 := (mem_ready.1 hr).1
        rw [heq] at h1
        rcases Nat.lt_or_ge i listed.size with h' | h'
        · simp [h'] at h0 h1; rw [h0] at h1; cases h1
        · simp [Array.getElem?_eq_none h'] at h1
      have h2 := qOpF_put hoj (hfree j oj hoj hji hjun hnot) hy h1
      have hfree' : ∀ k ok, ops[k]? = some ok → k ≠ i → (listed.setIfInBounds j true).getD k true = false →
          (∀ e ∈ ok.after, Region.binds md e = true → e.on ≠ i) → oi.apart ops ok = true := fun k ok hk hki hun hno => by
        refine hfree k ok hk hki ?_ hno
        by_cases hjk : j = k
        · subst hjk; exact hjun
        · rw [getD_set_ne true hjk] at hun; exact hun
      refine qOpF_mono (fun a' h3 => ih (listed.setIfInBounds j true) a' hfree' (ready_mono hr (Ne.symm hji)) h3.1 ?_) h2
      rw [Array.setIfInBounds_comm _ _ hji]
      exact h3.2

/-- The text's order. -/
def wpQ (P : Program) (E : Ent) (ops : Array Oper) (H : List Box) (Q : Tmps → Prop) : List Oper → Tmps → Prop
  | [], T => Q T
  | o :: rest, T => ∃ r, QY P E ops H o r T ∧ wpQ P E ops H Q rest (fput T o.dst r)

theorem wpAnyF_lex {Q : Tmps → Prop} : ∀ (l : List Oper) (k : Nat) (listed : Array Bool) (a : Tmps), (∀ j, l[j]? = ops[k + j]?) →
    Region.lexFrom md ops l.length k listed = true → wpQ P E ops H Q l a → wpAnyF P E md ops H Q l.length listed a
  | [], _, _, _, _, hB, h => ⟨by simpa [Region.lexFrom] using hB, h⟩
  | o :: l, k, listed, a, hl, hB, h => by
    have h0 : ops[k]? = some o := by simpa using (hl 0).symm
    simp only [List.length_cons, Region.lexFrom, Bool.and_eq_true] at hB
    obtain ⟨⟨hr, hf⟩, hB'⟩ := hB
    obtain ⟨v, hy, hK⟩ := h
    exact wpAnyF_first h0 l.length listed a (Region.free_spec h0 hf) (by simpa using hr) hy
      (wpAnyF_lex l (k + 1) _ _ (fun j => by have := hl (j + 1); simpa [Nat.add_assoc, Nat.add_comm 1 j] using this) hB' hK)

structure SimF (E : Ent) (T : Tmps) (H : List Box) (β : Pl) (a : Act) (w : World) : Prop where
  defers : a.defers = E.ds
  size : a.tmps.size = E.n
  inv : Inv E.base w H β
  stp : Stp E.base E.w E.H E.β w H β
  tmps : ∀ k, Rep w H β (T k) (a.tmps.getD k undef)
theorem SimF.eval {T : Tmps} {β : Pl} {a : Act} {w : World} (h : SimF E T H β a w) (x : Operand) : Rep w H β (feval T x) (a.eval x) := by
  cases x with
  | tmp t => exact h.tmps t
  | const v => exact rep_cst v
  | global g => exact rep_glb h.inv g
  | func f => exact .fn f [] #[] rfl (by simp)
theorem SimF.put {T : Tmps} {β β' : Pl} {a : Act} {w w' : World} (h : SimF E T H β a w) (d : Option Tmp) (hd : dstOk E d) {r : AV} {v : Value} (hI : Inv E.base w' H β') (hs : Stp E.base w H β w' H β') (hr : Rep w' H β' r v) :
    SimF E (fput T d r) H β' (a.put d v) w' := by
  refine ⟨?_, ?_, hI, h.stp.trans hs, fun k => ?_⟩
  · cases d <;> exact h.defers
  · cases d with
    | none => exact h.size
    | some d => simp [Act.put, h.size]
  · cases d with
    | none => exact (h.tmps k).stp hs
    | some d =>
      simp only [dstOk] at hd
      by_cases hk : d = k
      · subst hk
        have : (a.put (some d) v).tmps.getD d undef = v := by
          simp [Act.put, h.size, hd]
        rw [this]
        simpa [fput] using hr
      · have : (a.put (some d) v).tmps.getD k undef = a.tmps.getD k undef := by
          simp [Act.put, Array.getElem?_setIfInBounds_ne hk]
        rw [this]
        have h2 : fput T (some d) r k = T k := by simp [fput, hk]
        rw [h2]
        exact (h.tmps k).stp hs

theorem wantedF_sim {T : Tmps} {β : Pl} {a : Act} {w : World} (h : SimF E T H β a w) {o : Oper} {t : Bool} (hw : wantedF ops T o = some t) : Region.wanted o (yielded ops a.tmps) = t := by
  unfold wantedF at hw
  unfold Region.wanted
  split at hw
  · rename_i hg; rw [hg]; injection hw
  · rename_i j want hg
    rw [hg]
    simp only
    obtain ⟨b, hb, rfl⟩ := Option.map_eq_some_iff.1 hw
    have : yielded ops a.tmps j = b := by
      unfold yieldF at hb
      cases hd : (ops[j]?).bind (·.dst) with
      | none => rw [hd] at hb; cases hb
      | some d => rw [hd] at hb; exact yielded_flag hd (h.tmps d) hb
    rw [this]

theorem wpOp_of_F {i : Nat} {T : Tmps} {β : Pl} {a : Act} {w : World} {K : Tmps → Prop} {K' : Act → World → Prop} {Q' : Exit → Act → World → Prop} (hs : SimF E T H β a w)
    (hK : ∀ T a w β, SimF E T H β a w → K T → K' a w) (hh : qOpF P E ops H i K T) : wpOp P ops Q' i K' a w := by
  unfold qOpF at hh
  unfold wpOp
  split
  · rename_i ho; simp only [ho] at hh; exact hK _ _ _ _ hs hh
  · rename_i o ho
    simp only [ho] at hh
    obtain ⟨r, ⟨hd, hy⟩, hk⟩ := hh
    rcases hy with ⟨hw, hq⟩ | ⟨hw, rfl⟩
    · rw [if_pos (wantedF_sim hs hw)]
      left
      unfold Oper.wp
      unfold qyield at hq
      split at hq
      · rename_i f args ts hop
        obtain ⟨fid, caps, hf, hc⟩ := hq
        have hfr := hs.eval f
        rw [hf] at hfr
        generalize hv : a.eval f = fv at hfr
        cases hfr with
        | fn _ _ vs hl hr =>
          refine call_upon hop hv (hc w β _ hs.inv ⟨by simp [hl], fun i c x h1 h2 => ?_⟩) ?_ ?_ ?_
          · by_cases hi : i < args.size
            · rw [List.getElem?_append_left (by simpa using hi)] at h1
              rw [Array.getElem?_append_left (by simpa using hi)] at h2
              simp only [List.getElem?_map, Array.getElem?_toList, Array.getElem?_eq_getElem hi, Option.map_some, Option.some.injEq] at h1
              simp only [Array.getElem?_map, Array.getElem?_eq_getElem hi, Option.map_some, Option.some.injEq] at h2
              subst h1; subst h2
              exact unlit_rep (hs.eval _)
            · rw [List.getElem?_append_right (by simp; omega)] at h1
              rw [Array.getElem?_append_right (by simp; omega)] at h2
              simp only [List.length_map, Array.length_toList] at h1
              simp only [Array.size_map] at h2
              exact hr _ c x h1 h2
          · rintro v w' ⟨out, H', β', ⟨rfl, rfl⟩, k2, k3, k4⟩
            exact hK _ _ _ _ (hs.put o.dst hd k3 k4 k2) hk
          · rintro c w' ⟨out, H', β', ⟨rfl, rfl⟩, k2, k3, k4⟩
            exact k2.elim
          · rintro w' ⟨out, H', β', ⟨rfl, rfl⟩, k2, k3, k4⟩
            exact k2.elim
      · obtain ⟨v, w', β', hrun, hI', hst, hr⟩ := aop_sound (P := P) hs.inv hs.eval hq
        rcases hrun with hrun | ⟨hrun, rfl⟩
        · rw [hrun, Oper.upon_value]
          exact hK _ _ _ _ (hs.put o.dst hd hI' hst hr) hk
        · rw [hrun, Oper.upon_skip]
          exact hK _ _ _ _ (hs.put o.dst hd hI' hst hr) hk
    · rw [if_neg (by rw [wantedF_sim hs hw]; simp)]
      exact hK _ _ _ _ (hs.put o.dst hd hs.inv (Stp.refl _ _ _) (.v _)) hk

theorem wpAny_of_F {Q : Tmps → Prop} {Q' : Exit → Act → World → Prop} (hQ : ∀ T a w β, SimF E T H β a w → Q T → Q' .normal a w) : ∀ (fuel : Nat) (listed : Array Bool) (T : Tmps) (β : Pl) (a : Act) (w : World), SimF E T H β a w →
    wpAnyF P E md ops H Q fuel listed T → wpAny P md ops Q' fuel listed a w
  | 0, _, _, _, _, _, hw, h => ⟨h.1, hQ _ _ _ _ hw h.2⟩
  | fuel + 1, _, _, _, _, _, hw, h => ⟨fun h0 => hQ _ _ _ _ hw (h.1 h0), fun i hi => wpOp_of_F hw (fun T a w β hw' hk => wpAny_of_F hQ fuel _ T β a w hw' hk) (h.2 i hi)⟩

/-- One operation of a region whose order is open, on a list of slots. -/
def qone (P : Program) (E : Ent) (H : List Box) (o : Oper) (K : List (Nat × AV) → Prop) (l : List (Nat × AV)) : Prop :=
  dstOk E o.dst ∧
  match o.op with
  | .call { callee := .value f, args, .. } =>
    match aeval l f with
    | .fn fid caps => ∃ r, acall P E.base fid (args.toList.map (fun x => unlit (aeval l x)) ++ caps) H (fun out H' => out = .ret r ∧ H' = H) ∧ K (put l o.dst r)
    | _ => False
  | op =>
    match aop P o.type E.base (aeval l) H op with
    | some (r, H') => H' = H ∧ K (put l o.dst r)
    | none => False
def qskip (E : Ent) (o : Oper) (K : List (Nat × AV) → Prop) (l : List (Nat × AV)) : Prop := dstOk E o.dst ∧ K (put l o.dst (.v undef))
def qops (P : Program) (E : Ent) (ops : Array Oper) (H : List Box) (Q : List (Nat × AV) → Prop) : List Oper → List (Nat × AV) → Prop
  | [], l => Q l
  | o :: rest, l =>
    match o.guard with
    | none => qone P E H o (qops P E ops H Q rest) l
    | some (j, want) => match ayield ops l j with
      | some (some t) => Branch t want l (qone P E H o (qops P E ops H Q rest)) (qskip E o (qops P E ops H Q rest))
      | some none => qskip E o (qops P E ops H Q rest) l
      | none => False

theorem qone_QY {o : Oper} {K : List (Nat × AV) → Prop} {l : List (Nat × AV)} (h : qone P E H o K l) (hw : wantedF ops (lk l) o = some true) : ∃ r, QY P E ops H o r (lk l) ∧ K (put l o.dst r) := by
  obtain ⟨hd, h⟩ := h
  split at h
  · rename_i f args ts ho
    split at h
    · rename_i fid caps hf
      obtain ⟨r, h1, h2⟩ := h
      refine ⟨r, ⟨hd, .inl ⟨hw, ?_⟩⟩, h2⟩
      unfold qyield
      rw [ho]
      exact ⟨fid, caps, by rw [feval_lk]; exact hf, by rw [feval_lk]; exact h1⟩
    · exact h.elim
  · rename_i hno
    split at h
    · rename_i r H' hop
      obtain ⟨rfl, hk⟩ := h
      refine ⟨r, ⟨hd, .inl ⟨hw, ?_⟩⟩, hk⟩
      unfold qyield
      split
      · rename_i f args ts ho
        exact absurd ho (hno f args ts)
      · rw [feval_lk]; exact hop
    · exact h.elim

theorem wpQ_of_qops {Q : List (Nat × AV) → Prop} {Q' : Tmps → Prop} (hQ : ∀ l, Q l → Q' (lk l)) : ∀ (os : List Oper) (l : List (Nat × AV)), qops P E ops H Q os l → wpQ P E ops H Q' os (lk l) := by
  intro os
  induction os with
  | nil => intro l h; exact hQ l h
  | cons o rest ih =>
    intro l h
    simp only [qops] at h
    split at h
    · rename_i hg
      obtain ⟨r, h1, h2⟩ := qone_QY (ops := ops) h (by simp [wantedF, hg])
      exact ⟨r, h1, by rw [fput_lk]; exact ih _ h2⟩
    · rename_i j want hg
      split at h
      · rename_i t hy
        by_cases ht : t = want
        · obtain ⟨r, h1, h2⟩ := qone_QY (ops := ops) (h.1 ht) (by
            have : yieldF ops (lk l) j = some (some t) := hy
            simp [wantedF, hg, this, ht])
          exact ⟨r, h1, by rw [fput_lk]; exact ih _ h2⟩
        · obtain ⟨h1, h2⟩ := h.2 ht
          have : yieldF ops (lk l) j = some (some t) := hy
          exact ⟨.v undef, ⟨h1, .inr ⟨by simp [wantedF, hg, this, ht], rfl⟩⟩, by rw [fput_lk]; exact ih _ h2⟩
      · rename_i hy
        obtain ⟨h1, h2⟩ := h
        have : yieldF ops (lk l) j = some none := hy
        exact ⟨.v undef, ⟨h1, .inr ⟨by simp [wantedF, hg, this], rfl⟩⟩, by rw [fput_lk]; exact ih _ h2⟩
      · exact h.elim

theorem AWP.draw {Q : AExit → ASt → Prop} {id : Nat} {l : List (Nat × AV)} (hm : P.follows .mixedOrders = true) (hB : Region.lexB .any ops = true) (h : qops P E ops H (fun l => Q .normal ⟨l, H⟩) ops.toList l) :
    AWP P E (.region id ops true) Q ⟨l, H⟩ := fun a w ⟨β, hs⟩ => by
  simp only [Region.lexB, Bool.and_eq_true] at hB
  obtain ⟨i1, i2⟩ := still (w' := { w with drawn := w.drawn + 1 }) hs.inv (Wor.drawn w _) (fun _ _ _ => rfl)
  have hsf : SimF E (lk l) H β a { w with drawn := w.drawn + 1 } := ⟨hs.defers, hs.size, i1, hs.stp.trans i2, fun k => (hs.tmps k).stp i2⟩
  refine wp_region_any hm (wpAny_of_F (H := H) (E := E) (Q := fun T => ∃ l', T = lk l' ∧ Q .normal ⟨l', H⟩) (fun T a w β hs h => ?_) _ _ _ β _ _ hsf ?_)
  · obtain ⟨l', rfl, hq⟩ := h
    exact ⟨⟨l', H⟩, hq, β, ⟨hs.defers, hs.size, hs.inv, hs.stp, hs.tmps⟩⟩
  · have := wpAnyF_lex (P := P) (E := E) (H := H) (md := .any) (Q := fun T => ∃ l', T = lk l' ∧ Q .normal ⟨l', H⟩) ops.toList 0 (Array.replicate ops.size false) (lk l) (by simp) (by simpa using hB.2) (wpQ_of_qops (fun l hq => ⟨l, rfl, hq⟩) _ _ h)
    simpa using this

end
end Go.Proofs.YtnlmdeeadldgmaaGreatDoor.VL

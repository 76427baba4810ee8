/- The value logic, part 10: operations whose order is open: where each leaves the boxes alone, the text's order serves every order. -/
import Derived.Test.YtjkdahpoalnjjaaDoorZCb
import Derived.StillTail
import Derived.Attr
set_option linter.unusedVariables false
set_option linter.unusedSimpArgs false
namespace Go.Proofs.YtjkdahpoalnjjaaDoor.VL
open Go Go.RowKit Go.Lib

abbrev Tmps := Nat → AV
def feval (T : Tmps) : Operand → AV
  | .tmp t => T t
  | .const v => cst v
  | .global g => glb g
  | .func f => .fn f []
def fput (T : Tmps) : Option Tmp → AV → Tmps
  | some d, v => fun k => if d = k then v else T k
  | none, _ => T
theorem feval_lk (l : List (Nat × AV)) : feval (lk l) = aeval l := by funext x; cases x <;> rfl
theorem fput_lk (l : List (Nat × AV)) (d : Option Tmp) (v : AV) : fput (lk l) d v = lk (put l d v) := by
  cases d with
  | none => rfl
  | some d => funext k; simp [fput, put, lk_cons]
theorem fput_comm (T : Tmps) {x y : Option Tmp} (v u : AV) (h : ∀ d, x = some d → y ≠ some d) : fput (fput T x v) y u = fput (fput T y u) x v := by
  cases x with
  | none => rfl
  | some d =>
    cases y with
    | none => rfl
    | some e =>
      have hne : d ≠ e := fun he => h d rfl (he ▸ rfl)
      funext k
      simp only [fput]
      by_cases h1 : e = k
      · subst h1; rw [if_pos rfl, if_neg hne, if_pos rfl]
      · rw [if_neg h1]
        by_cases h2 : d = k
        · rw [if_pos h2, if_pos h2]
        · rw [if_neg h2, if_neg h2, if_neg h1]
theorem feval_fput {T : Tmps} {d : Option Tmp} {v : AV} {x : Operand} (h : ∀ t, d = some t → x ≠ .tmp t) : feval (fput T d v) x = feval T x := by
  cases d with
  | none => rfl
  | some d =>
    cases x with
    | tmp t =>
      have : d ≠ t := fun e => h d rfl (e ▸ rfl)
      simp [feval, fput, this]
    | _ => rfl

theorem aopU_congr {P : Program} {ty : TypeId} {A A' : Operand → AV} {H : List Box} (op : Op) (h : ∀ x ∈ op.operands, A x = A' x) : aopU P ty A H op = aopU P ty A' H op := by
  have hparts : ∀ ps : Array (Nat × Operand), (∀ x ∈ (ps.toList.map (·.2)).toArray, A x = A' x) → parts A ps = parts A' ps := fun ps hp =>
    List.map_congr_left fun p hm => by
      rw [hp p.2 (by simp; exact ⟨p.1, by simpa using hm⟩)]
  cases op with
  | move x => simp only [aopU, h x (by simp [Op.operands])]
  | assign x => simp only [aopU, h x (by simp [Op.operands])]
  | pick c a b => simp only [aopU, h c (by simp [Op.operands]), h a (by simp [Op.operands]), h b (by simp [Op.operands])]
  | alloc t => rfl
  | box t x => simp only [aopU, h x (by simp [Op.operands])]
  | build t ps => simp only [aopU, abuild, hparts ps (fun x hx => h x (by simpa [Op.operands] using hx))]
  | buildSlice t n ps => simp only [aopU, abuildSlice, hparts ps (fun x hx => h x (by simpa [Op.operands] using hx))]
  | load t x => simp only [aopU, h x (by simp [Op.operands])]
  | store t x y => simp only [aopU, h x (by simp [Op.operands]), h y (by simp [Op.operands])]
  | nilCheck x => simp only [aopU, h x (by simp [Op.operands])]
  | binOp op t x y yt => simp only [aopU, h x (by simp [Op.operands]), h y (by simp [Op.operands])]
  | unOp op t x => simp only [aopU, h x (by simp [Op.operands])]
  | typeAssert x s t ok => simp only [aopU, h x (by simp [Op.operands])]
  | convert s d x => simp only [aopU, h x (by simp [Op.operands])]
  | makeSlice t x y => simp only [aopU, h x (by simp [Op.operands]), h y (by simp [Op.operands])]
  | slice t x lo hi mx =>
    have e1 : lo.map A = lo.map A' := by cases lo <;> simp_all [Op.operands]
    have e2 : hi.map A = hi.map A' := by cases hi <;> simp_all [Op.operands]
    have e3 : mx.map A = mx.map A' := by cases mx <;> simp_all [Op.operands]
    simp only [aopU, h x (by simp [Op.operands]), e1, e2, e3]
  | fieldAddr s x f => simp only [aopU, h x (by simp [Op.operands])]
  | field s x f => simp only [aopU, h x (by simp [Op.operands])]
  | indexAddr t x i => simp only [aopU, h x (by simp [Op.operands]), h i (by simp [Op.operands])]
  | index t x i => simp only [aopU, h x (by simp [Op.operands]), h i (by simp [Op.operands])]
  | extract x i => simp only [aopU, h x (by simp [Op.operands])]
  | makeInterface t x => simp only [aopU, h x (by simp [Op.operands])]
  | makeFunc fn first cs =>
    have : acaps A cs = acaps A' cs := List.map_congr_left fun x hx => h x (by simp [Op.operands]; exact .inr (by simpa using hx))
    cases fn <;> simp only [aopU, this]
  | call c =>
    obtain ⟨callee, args, ts⟩ := c
    have : args.toList.map A = args.toList.map A' := List.map_congr_left fun x hx => h x (by simp [Op.operands, Call.operands]; exact .inr (by simpa using hx))
    cases callee <;> simp only [aopU, this]
  | _ => rfl

theorem aop_congr {P : Program} {ty : TypeId} {b : Nat} {A A' : Operand → AV} {H : List Box} (op : Op) (h : ∀ x ∈ op.operands, A x = A' x) : aop P ty b A H op = aop P ty b A' H op := by
  have h' : aopU P ty (fun x => unlit (A x)) H op = aopU P ty (fun x => unlit (A' x)) H op := aopU_congr op fun x hx => by rw [h x hx]
  unfold aop
  split
  · rw [h']
  · rename_i s d x
    rw [h', h x (by simp [Op.operands])]
  · exact h'

section
variable {P : Program} {E : Ent} {ops : Array Oper} {md : Region.Mode} {H : List Box}

def qyield (P : Program) (E : Ent) (H : List Box) (T : Tmps) (o : Oper) (r : AV) : Prop :=
  match o.op with
  | .call { callee := .value f, args, .. } =>
    ∃ fid caps, feval T f = .fn fid caps ∧ acall P E.base fid (args.toList.map (fun x => unlit (feval T x)) ++ caps) H fun out H' => out = .ret r ∧ H' = H
  | op => aop P o.type E.base (feval T) H op = some (r, H)

def yieldF (ops : Array Oper) (T : Tmps) (j : Nat) : Option (Option Bool) :=
  match (ops[j]?).bind (·.dst) with
  | some d => aflag (T d)
  | none => none
def wantedF (ops : Array Oper) (T : Tmps) (o : Oper) : Option Bool :=
  match o.guard with
  | none => some true
  | some (j, want) => (yieldF ops T j).map fun t => t == some want

/-- Operation o yields r, or is passed by. -/
def QY (P : Program) (E : Ent) (ops : Array Oper) (H : List Box) (o : Oper) (r : AV) (T : Tmps) : Prop :=
  dstOk E o.dst ∧ ((wantedF ops T o = some true ∧ qyield P E H T o r) ∨ (wantedF ops T o = some false ∧ r = .v undef))

theorem QY.congr {o : Oper} {r : AV} {T T' : Tmps} (h : QY P E ops H o r T) (hc : ∀ t ∈ o.looksAt ops, T' t = T t) : QY P E ops H o r T' := by
  have hop : ∀ x ∈ o.op.operands, feval T' x = feval T x := fun x hx => by
    cases x with
    | tmp t => exact hc t (by simp only [Oper.looksAt, List.mem_append, List.mem_filterMap]; exact .inl ⟨.tmp t, by simpa using hx, rfl⟩)
    | _ => rfl
  have hw : wantedF ops T' o = wantedF ops T o := by
    unfold wantedF
    split
    · rfl
    · rename_i j want hg
      have : yieldF ops T' j = yieldF ops T j := by
        unfold yieldF
        cases hd : (ops[j]?).bind (·.dst) with
        | none => rfl
        | some d =>
          have := hc d (by simp only [Oper.looksAt, hg, List.mem_append]; exact .inr (by rw [hd]; simp))
          simp only [this]
      rw [this]
  have hq : qyield P E H T o r → qyield P E H T' o r := fun hq => by
    unfold qyield at hq ⊢
    split at hq
    · rename_i f args ts ho
      obtain ⟨fid, caps, h1, h2⟩ := hq
      refine ⟨fid, caps, ?_, ?_⟩
      · rw [hop f (by simp [ho, Op.operands, Call.operands]), h1]
      · have : args.toList.map (fun x => unlit (feval T' x)) = args.toList.map (fun x => unlit (feval T x)) := List.map_congr_left fun x hx => congrArg unlit (hop x (by simp [ho, Op.operands, Call.operands]; exact .inr (by simpa using hx)))
        rw [this]; exact h2
    · rename_i ho
      rw [aop_congr (A := feval T') (A' := feval T) o.op hop]
      exact hq
  exact ⟨h.1, h.2.imp (fun ⟨a, b⟩ => ⟨by rw [hw]; exact a, hq b⟩) fun ⟨a, b⟩ => ⟨by rw [hw]; exact a, b⟩⟩

theorem fput_looks {o o' : Oper} {T : Tmps} {v : AV} (h : ∀ d, o'.dst = some d → d ∉ o.looksAt ops) : ∀ t ∈ o.looksAt ops, fput T o'.dst v t = T t := fun t ht => by
  cases hd : o'.dst with
  | none => rfl
  | some d =>
    have : d ≠ t := fun e => h d hd (e ▸ ht)
    simp [fput, this]

def qOpF (P : Program) (E : Ent) (ops : Array Oper) (H : List Box) (i : Nat) (K : Tmps → Prop) (T : Tmps) : Prop :=
  match ops[i]? with
  | none => K T
  | some o => ∃ r, QY P E ops H o r T ∧ K (fput T o.dst r)

theorem qOpF_mono {i : Nat} {T : Tmps} {K K' : Tmps → Prop} (h : ∀ T, K T → K' T) (hh : qOpF P E ops H i K T) : qOpF P E ops H i K' T := by
  unfold qOpF at *
  split
  · exact h _ (by simpa [*] using hh)
  · rename_i o ho
    simp only [ho] at hh
    obtain ⟨r, h1, h2⟩ := hh
    exact ⟨r, h1, h _ h2⟩

def wpAnyF (P : Program) (E : Ent) (md : Region.Mode) (ops : Array Oper) (H : List Box) (Q : Tmps → Prop) : Nat → Array Bool → Tmps → Prop
  | 0, listed, T => Region.ready md ops listed = [] ∧ Q T
  | fuel + 1, listed, T =>
    (Region.ready md ops listed = [] → Q T) ∧
    ∀ i ∈ Region.ready md ops listed, qOpF P E ops H i (wpAnyF P E md ops H Q fuel (listed.setIfInBounds i true)) T

theorem QY.qOp {i : Nat} {o : Oper} {r : AV} {T : Tmps} (hi : ops[i]? = some o) (hy : QY P E ops H o r T) {K : Tmps → Prop} (h : K (fput T o.dst r)) : qOpF P E ops H i K T := by
  unfold qOpF
  simp only [hi]
  exact ⟨r, hy, h⟩

theorem qOpF_put {j : Nat} {oi oj : Oper} {r : AV} (hj : ops[j]? = some oj) (hap : oi.apart ops oj = true) {K : Tmps → Prop} {T : Tmps}
    (hy : QY P E ops H oi r T) (h : qOpF P E ops H j K (fput T oi.dst r)) : qOpF P E ops H j (fun T' => QY P E ops H oi r T' ∧ K (fput T' oi.dst r)) T := by
  obtain ⟨h1, h2, h3⟩ := Oper.apart_spec hap
  unfold qOpF at *
  simp only [hj] at *
  obtain ⟨u, hu, hk⟩ := h
  refine ⟨u, hu.congr fun t ht => (fput_looks h1 t ht).symm, hy.congr (fput_looks h3), ?_⟩
  rw [← fput_comm T r u h2]
  exact hk

theorem wpAnyF_first {Q : Tmps → Prop} {i : Nat} {oi : Oper} {v : AV} (hi : ops[i]? = some oi) :
    ∀ (fuel : Nat) (listed : Array Bool) (a : Tmps),
      (∀ j oj, ops[j]? = some oj → j ≠ i → listed.getD j true = false → (∀ e ∈ oj.after, Region.binds md e = true → e.on ≠ i) → oi.apart ops oj = true) →
      i ∈ Region.ready md ops listed → QY P E ops H oi v a →
      wpAnyF P E md ops H Q fuel (listed.setIfInBounds i true) (fput a oi.dst v) → wpAnyF P E md ops H Q (fuel + 1) listed a := by
  intro fuel
  induction fuel with
  | zero =>
    intro listed a _ hr hy HH
    refine ⟨fun h => (by rw [h] at hr; cases hr), fun j hj => ?_⟩
    by_cases hji : j = i
    · subst hji; exact hy.qOp hi HH
    · have := ready_mono hj hji
      rw [HH.1] at this
      cases this
  | succ fuel ih =>
    intro listed a hfree hr hy HH
    refine ⟨fun h => (by rw [h] at hr; cases hr), fun j hj => ?_⟩
    by_cases hji : j = i
    · subst hji; exact hy.qOp hi HH
    · have h1 := HH.2 j (ready_mono hj hji)
      obtain ⟨hjun, oj, hoj, hall⟩ := mem_ready.1 hj
      have hnot : ∀ e ∈ oj.after, Region.binds md e = true → e.on ≠ i := fun e he hb heq => by
        have h1 := hall e he hb
        have h0 := (mem_ready.1 hr).1
        rw [heq] at h1
        rcases Nat.lt_or_ge i listed.size with h' | h'
        · simp [h'] at h0 h1; rw [h0] at h1; cases h1
        · simp [Array.getElem?_eq_none h'] at h1
      have h2 := qOpF_put hoj (hfree j oj hoj hji hjun hnot) hy h1
      have hfree' : ∀ k ok, ops[k]? = some ok → k ≠ i → (listed.setIfInBounds j true).getD k true = false →
          (∀ e ∈ ok.after, Region.binds md e = true → e.on ≠ i) → oi.apart ops ok = true := fun k ok hk hki hun hno => by
        refine hfree k ok hk hki ?_ hno
        by_cases hjk : j = k
        · subst hjk; exact hjun
        · rw [getD_set_ne true hjk] at hun; exact hun
      refine qOpF_mono (fun a' h3 => ih (listed.setIfInBounds j true) a' hfree' (ready_mono hr (Ne.symm hji)) h3.1 ?_) h2
      rw [Array.setIfInBounds_comm _ _ hji]
      exact h3.2

/-- The text's order. -/
def wpQ (P : Program) (E : Ent) (ops : Array Oper) (H : List Box) (Q : Tmps → Prop) : List Oper → Tmps → Prop
  | [], T => Q T
  | o :: rest, T => ∃ r, QY P E ops H o r T ∧ wpQ P E ops H Q rest (fput T o.dst r)

theorem wpAnyF_lex {Q : Tmps → Prop} : ∀ (l : List Oper) (k : Nat) (listed : Array Bool) (a : Tmps), (∀ j, l[j]? = ops[k + j]?) →
    Region.lexFrom md ops l.length k listed = true → wpQ P E ops H Q l a → wpAnyF P E md ops H Q l.length listed a
  | [], _, _, _, _, hB, h => ⟨by simpa [Region.lexFrom] using hB, h⟩
  | o :: l, k, listed, a, hl, hB, h => by
    have h0 : ops[k]? = some o := by simpa using (hl 0).symm
    simp only [List.length_cons, Region.lexFrom, Bool.and_eq_true] at hB
    obtain ⟨⟨hr, hf⟩, hB'⟩ := hB
    obtain ⟨v, hy, hK⟩ := h
    exact wpAnyF_first h0 l.length listed a (Region.free_spec h0 hf) (by simpa using hr) hy
      (wpAnyF_lex l (k + 1) _ _ (fun j => by have := hl (j + 1); simpa [Nat.add_assoc, Nat.add_comm 1 j] using this) hB' hK)

structure SimF (E : Ent) (T : Tmps) (H : List Box) (β : Pl) (a : Act) (w : World) : Prop where
  defers : a.defers = E.ds
  size : a.tmps.size = E.n
  inv : Inv E.base w H β
  stp : Stp E.base E.w E.H E.β w H β
  tmps : ∀ k, Rep w H β (T k) (a.tmps.getD k undef)
theorem SimF.eval {T : Tmps} {β : Pl} {a : Act} {w : World} (h : SimF E T H β a w) (x : Operand) : Rep w H β (feval T x) (a.eval x) := by
  cases x with
  | tmp t => exact h.tmps t
  | const v => exact rep_cst v
  | global g => exact rep_glb h.inv g
  | func f => exact .fn f [] #[] rfl (by simp)
theorem SimF.put {T : Tmps} {β β' : Pl} {a : Act} {w w' : World} (h : SimF E T H β a w) (d : Option Tmp) (hd : dstOk E d) {r : AV} {v : Value} (hI : Inv E.base w' H β') (hs : Stp E.base w H β w' H β') (hr : Rep w' H β' r v) :
    SimF E (fput T d r) H β' (a.put d v) w' := by
  refine ⟨?_, ?_, hI, h.stp.trans hs, fun k => ?_⟩
  · cases d <;> exact h.defers
  · cases d with
    | none => exact h.size
    | some d => simp [Act.put, h.size]
  · cases d with
    | none => exact (h.tmps k).stp hs
    | some d =>
      simp only [dstOk] at hd
      by_cases hk : d = k
      · subst hk
        have : (a.put (some d) v).tmps.getD d undef = v := by
          simp [Act.put, h.size, hd]
        rw [this]
        simpa [fput] using hr
      · have : (a.put (some d) v).tmps.getD k undef = a.tmps.getD k undef := by
          simp [Act.put, Array.getElem?_setIfInBounds_ne hk]
        rw [this]
        have h2 : fput T (some d) r k = T k := by simp [fput, hk]
        rw [h2]
        exact (h.tmps k).stp hs

theorem wantedF_sim {T : Tmps} {β : Pl} {a : Act} {w : World} (h : SimF E T H β a w) {o : Oper} {t : Bool} (hw : wantedF ops T o = some t) : Region.wanted o (yielded ops a.tmps) = t := by
  unfold wantedF at hw
  unfold Region.wanted
  split at hw
  · rename_i hg; rw [hg]; injection hw
  · rename_i j want hg
    rw [hg]
    simp only
    obtain ⟨b, hb, rfl⟩ := Option.map_eq_some_iff.1 hw
    have : yielded ops a.tmps j = b := by
      unfold yieldF at hb
      cases hd : (ops[j]?).bind (·.dst) with
      | none => rw [hd] at hb; cases hb
      | some d => rw [hd] at hb; exact yielded_flag hd (h.tmps d) hb
    rw [this]

theorem wpOp_of_F {i : Nat} {T : Tmps} {β : Pl} {a : Act} {w : World} {K : Tmps → Prop} {K' : Act → World → Prop} {Q' : Exit → Act → World → Prop} (hs : SimF E T H β a w)
    (hK : ∀ T a w β, SimF E T H β a w → K T → K' a w) (hh : qOpF P E ops H i K T) : wpOp P ops Q' i K' a w := by
  unfold qOpF at hh
  unfold wpOp
  split
  · rename_i ho; simp only [ho] at hh; exact hK _ _ _ _ hs hh
  · rename_i o ho
    simp only [ho] at hh
    obtain ⟨r, ⟨hd, hy⟩, hk⟩ := hh
    rcases hy with ⟨hw, hq⟩ | ⟨hw, rfl⟩
    · rw [if_pos (wantedF_sim hs hw)]
      left
      unfold Oper.wp
      unfold qyield at hq
      split at hq
      · rename_i f args ts hop
        obtain ⟨fid, caps, hf, hc⟩ := hq
        have hfr := hs.eval f
        rw [hf] at hfr
        generalize hv : a.eval f = fv at hfr
        cases hfr with
        | fn _ _ vs hl hr =>
          refine call_upon hop hv (hc w β _ hs.inv ⟨by simp [hl], fun i c x h1 h2 => ?_⟩) ?_ ?_ ?_
          · by_cases hi : i < args.size
            · rw [List.getElem?_append_left (by simpa using hi)] at h1
              rw [Array.getElem?_append_left (by simpa using hi)] at h2
              simp only [List.getElem?_map, Array.getElem?_toList, Array.getElem?_eq_getElem hi, Option.map_some, Option.some.injEq] at h1
              simp only [Array.getElem?_map, Array.getElem?_eq_getElem hi, Option.map_some, Option.some.injEq] at h2
              subst h1; subst h2
              exact unlit_rep (hs.eval _)
            · rw [List.getElem?_append_right (by simp; omega)] at h1
              rw [Array.getElem?_append_right (by simp; omega)] at h2
              simp only [List.length_map, Array.length_toList] at h1
              simp only [Array.size_map] at h2
              exact hr _ c x h1 h2
          · rintro v w' ⟨out, H', β', ⟨rfl, rfl⟩, k2, k3, k4⟩
            exact hK _ _ _ _ (hs.put o.dst hd k3 k4 k2) hk
          · rintro c w' ⟨out, H', β', ⟨rfl, rfl⟩, k2, k3, k4⟩
            exact k2.elim
          · rintro w' ⟨out, H', β', ⟨rfl, rfl⟩, k2, k3, k4⟩
            exact k2.elim
      · obtain ⟨v, w', β', hrun, hI', hst, hr⟩ := aop_sound (P := P) hs.inv hs.eval hq
        rcases hrun with hrun | ⟨hrun, rfl⟩
        · rw [hrun, Oper.upon_value]
          exact hK _ _ _ _ (hs.put o.dst hd hI' hst hr) hk
        · rw [hrun, Oper.upon_skip]
          exact hK _ _ _ _ (hs.put o.dst hd hI' hst hr) hk
    · rw [if_neg (by rw [wantedF_sim hs hw]; simp)]
      exact hK _ _ _ _ (hs.put o.dst hd hs.inv (Stp.refl _ _ _) (.v _)) hk

theorem wpAny_of_F {Q : Tmps → Prop} {Q' : Exit → Act → World → Prop} (hQ : ∀ T a w β, SimF E T H β a w → Q T → Q' .normal a w) : ∀ (fuel : Nat) (listed : Array Bool) (T : Tmps) (β : Pl) (a : Act) (w : World), SimF E T H β a w →
    wpAnyF P E md ops H Q fuel listed T → wpAny P md ops Q' fuel listed a w
  | 0, _, _, _, _, _, hw, h => ⟨h.1, hQ _ _ _ _ hw h.2⟩
  | fuel + 1, _, _, _, _, _, hw, h => ⟨fun h0 => hQ _ _ _ _ hw (h.1 h0), fun i hi => wpOp_of_F hw (fun T a w β hw' hk => wpAny_of_F hQ fuel _ T β a w hw' hk) (h.2 i hi)⟩

/-- One operation of a region whose order is open, on a list of slots. -/
def qone (P : Program) (E : Ent) (H : List Box) (o : Oper) (K : List (Nat × AV) → Prop) (l : List (Nat × AV)) : Prop :=
  dstOk E o.dst ∧
  match o.op with
  | .call { callee := .value f, args, .. } =>
    match aeval l f with
    | .fn fid caps => ∃ r, acall P E.base fid (args.toList.map (fun x => unlit (aeval l x)) ++ caps) H (fun out H' => out = .ret r ∧ H' = H) ∧ K (put l o.dst r)
    | _ => False
  | op =>
    match aop P o.type E.base (aeval l) H op with
    | some (r, H') => H' = H ∧ K (put l o.dst r)
    | none => False
def qskip (E : Ent) (o : Oper) (K : List (Nat × AV) → Prop) (l : List (Nat × AV)) : Prop := dstOk E o.dst ∧ K (put l o.dst (.v undef))
def qops (P : Program) (E : Ent) (ops : Array Oper) (H : List Box) (Q : List (Nat × AV) → Prop) : List Oper → List (Nat × AV) → Prop
  | [], l => Q l
  | o :: rest, l =>
    match o.guard with
    | none => qone P E H o (qops P E ops H Q rest) l
    | some (j, want) => match ayield ops l j with
      | some (some t) => Branch t want l (qone P E H o (qops P E ops H Q rest)) (qskip E o (qops P E ops H Q rest))
      | some none => qskip E o (qops P E ops H Q rest) l
      | none => False

theorem qone_QY {o : Oper} {K : List (Nat × AV) → Prop} {l : List (Nat × AV)} (h : qone P E H o K l) (hw : wantedF ops (lk l) o = some true) : ∃ r, QY P E ops H o r (lk l) ∧ K (put l o.dst r) := by
  obtain ⟨hd, h⟩ := h
  split at h
  · rename_i f args ts ho
    split at h
    · rename_i fid caps hf
      obtain ⟨r, h1, h2⟩ := h
      refine ⟨r, ⟨hd, .inl ⟨hw, ?_⟩⟩, h2⟩
      unfold qyield
      rw [ho]
      exact ⟨fid, caps, by rw [feval_lk]; exact hf, by rw [feval_lk]; exact h1⟩
    · exact h.elim
  · rename_i hno
    split at h
    · rename_i r H' hop
      obtain ⟨rfl, hk⟩ := h
      refine ⟨r, ⟨hd, .inl ⟨hw, ?_⟩⟩, hk⟩
      unfold qyield
      split
      · rename_i f args ts ho
        exact absurd ho (hno f args ts)
      · rw [feval_lk]; exact hop
    · exact h.elim

theorem wpQ_of_qops {Q : List (Nat × AV) → Prop} {Q' : Tmps → Prop} (hQ : ∀ l, Q l → Q' (lk l)) : ∀ (os : List Oper) (l : List (Nat × AV)), qops P E ops H Q os l → wpQ P E ops H Q' os (lk l) := by
  intro os
  induction os with
  | nil => intro l h; exact hQ l h
  | cons o rest ih =>
    intro l h
    simp only [qops] at h
    split at h
    · rename_i hg
      obtain ⟨r, h1, h2⟩ := qone_QY (ops := ops) h (by simp [wantedF, hg])
      exact ⟨r, h1, by rw [fput_lk]; exact ih _ h2⟩
    · rename_i j want hg
      split at h
      · rename_i t hy
        by_cases ht : t = want
        · obtain ⟨r, h1, h2⟩ := qone_QY (ops := ops) (h.1 ht) (by
            have : yieldF ops (lk l) j = some (some t) := hy
            simp [wantedF, hg, this, ht])
          exact ⟨r, h1, by rw [fput_lk]; exact ih _ h2⟩
        · obtain ⟨h1, h2⟩ := h.2 ht
          have : yieldF ops (lk l) j = some (some t) := hy
          exact ⟨.v undef, ⟨h1, .inr ⟨by simp [wantedF, hg, this, ht], rfl⟩⟩, by rw [fput_lk]; exact ih _ h2⟩
      · rename_i hy
        obtain ⟨h1, h2⟩ := h
        have : yieldF ops (lk l) j = some none := hy
        exact ⟨.v undef, ⟨h1, .inr ⟨by simp [wantedF, hg, this], rfl⟩⟩, by rw [fput_lk]; exact ih _ h2⟩
      · exact h.elim

theorem AWP.draw {Q : AExit → ASt → Prop} {id : Nat} {l : List (Nat × AV)} (hm : P.follows .mixedOrders = true) (hB : Region.lexB .any ops = true) (h : qops P E ops H (fun l => Q .normal ⟨l, H⟩) ops.toList l) :
    AWP P E (.region id ops true) Q ⟨l, H⟩ := fun a w ⟨β, hs⟩ => by
  simp only [Region.lexB, Bool.and_eq_true] at hB
  obtain ⟨i1, i2⟩ := still (w' := { w with drawn := w.drawn + 1 }) hs.inv (Wor.drawn w _) (fun _ _ _ => rfl)
  have hsf : SimF E (lk l) H β a { w with drawn := w.drawn + 1 } := ⟨hs.defers, hs.size, i1, hs.stp.trans i2, fun k => (hs.tmps k).stp i2⟩
  refine wp_region_any hm (wpAny_of_F (H := H) (E := E) (Q := fun T => ∃ l', T = lk l' ∧ Q .normal ⟨l', H⟩) (fun T a w β hs h => ?_) _ _ _ β _ _ hsf ?_)
  · obtain ⟨l', rfl, hq⟩ := h
    exact ⟨⟨l', H⟩, hq, β, ⟨hs.defers, hs.size, hs.inv, hs.stp, hs.tmps⟩⟩
  · have := wpAnyF_lex (P := P) (E := E) (H := H) (md := .any) (Q := fun T => ∃ l', T = lk l' ∧ Q .normal ⟨l', H⟩) ops.toList 0 (Array.replicate ops.size false) (lk l) (by simp) (by simpa using hB.2) (wpQ_of_qops (fun l hq => ⟨l, rfl, hq⟩) _ _ h)
    simpa using this

end
end Go.Proofs.YtjkdahpoalnjjaaDoor.VL

/- The value logic, part 11: what may be forgotten of boxes; a function's body gives its contract. -/
set_option linter.unusedVariables false
set_option linter.unusedSimpArgs false
namespace Go.Proofs.YtjkdahpoalnjjaaDoor.VL
open Go Go.RowKit Go.Lib

/-! ### Which boxes a value names -/
inductive Lt (n : Nat) : AV → Prop
  | v (x : Value) : Lt n (.v x)
  | emp : Lt n .emp
  | lit (m sz : Nat) (gs : List (List AV)) (h : Lt n (.lst sz gs)) : Lt n (.lit m sz gs)
  | dead : Lt n .dead
  | agg (cs : List AV) (h : ∀ (i : Nat) (c : AV), cs[i]? = some c → Lt n c) : Lt n (.agg cs)
  | tup (cs : List AV) (h : ∀ (i : Nat) (c : AV), cs[i]? = some c → Lt n c) : Lt n (.tup cs)
  | lst (sz : Nat) (gs : List (List AV)) (h : ∀ (i j : Nat) (g : List AV) (c : AV), gs[i]? = some g → g[j]? = some c → Lt n c) : Lt n (.lst sz gs)
  | sl (b g o m sz : Nat) (full : Bool) (h : b < n) : Lt n (.sl b g o m sz full)
  | ptr (b g o : Nat) (h : b < n) : Lt n (.ptr b g o)
  | bself (b g : Nat) (e : TypeId) (h : b < n) : Lt n (.bself b g e)
  | bs (b g m : Nat) (e : TypeId) (h : b < n) : Lt n (.bs b g m e)
  | bp (b g m : Nat) (e : TypeId) (h : 0 < m → b < n) : Lt n (.bp b g m e)
  | elt (g : List AV) (j : Nat) (h : ∀ (j : Nat) (c : AV), g[j]? = some c → Lt n c) : Lt n (.elt g j)
  | fn (f : FuncId) (cs : List AV) (h : ∀ (i : Nat) (c : AV), cs[i]? = some c → Lt n c) : Lt n (.fn f cs)

theorem Lt.mono {n m : Nat} (hnm : n ≤ m) {c : AV} (h : Lt n c) : Lt m c := by
  induction h with
  | v x => exact .v x
  | emp => exact .emp
  | lit m sz gs _ ih => exact .lit m sz gs ih
  | dead => exact .dead
  | agg cs _ ih => exact .agg cs ih
  | tup cs _ ih => exact .tup cs ih
  | lst sz gs _ ih => exact .lst sz gs ih
  | sl b g o k sz full h => exact .sl b g o k sz full (by omega)
  | ptr b g o h => exact .ptr b g o (by omega)
  | bself b g e h => exact .bself b g e (by omega)
  | bs b g m e h => exact .bs b g m e (by omega)
  | bp b g m e h => exact .bp b g m e (fun h0 => by have := h h0; omega)
  | elt g j _ ih => exact .elt g j ih
  | fn f cs _ ih => exact .fn f cs ih

theorem Rep.lt {w : World} {H : List Box} {β : Pl} {c : AV} {x : Value} (h : Rep w H β c x) : Lt H.length c := by
  induction h with
  | v x => exact .v x
  | dead x => exact .dead
  | emp a => exact .emp
  | lit n sz gs v _ hk ih => exact .lit n sz gs ih
  | agg cs vs hl _ ih => exact .agg cs fun i c hi => ih i c _ hi (Array.getElem?_eq_getElem (by have := (List.getElem?_eq_some_iff.1 hi).1; omega))
  | tup cs vs hl _ ih => exact .tup cs fun i c hi => ih i c _ hi (Array.getElem?_eq_getElem (by have := (List.getElem?_eq_some_iff.1 hi).1; omega))
  | lst0 sz a cap => exact .lst _ _ (by simp)
  | lst sz gs k s cap x hn hg hc _ ih => exact .lst sz gs ih
  | sl b g o n sz full x bx hb hg hx h => exact .sl _ _ _ _ _ _ (List.getElem?_eq_some_iff.1 hb).1
  | ptr b g o x bx hb hg hx h => exact .ptr _ _ _ (List.getElem?_eq_some_iff.1 hb).1
  | bself b g e x bx hb hg hx h => exact .bself _ _ _ (List.getElem?_eq_some_iff.1 hb).1
  | bs b g n e x bx hb hg hx h ht => exact .bs _ _ _ _ (List.getElem?_eq_some_iff.1 hb).1
  | bp b g n e x hx h => exact .bp _ _ _ _ fun h0 => by obtain ⟨bx, hb, _⟩ := h h0; exact (List.getElem?_eq_some_iff.1 hb).1
  | elt g j k s x hc _ ih => exact .elt g j ih
  | fn f cs vs hl _ ih => exact .fn f cs fun i c hi => ih i c _ hi (Array.getElem?_eq_getElem (by have := (List.getElem?_eq_some_iff.1 hi).1; omega))

/-- Other boxes, of which the value names none. -/
theorem Rep.move {w : World} {H H' : List Box} {β β' : Pl} {n : Nat} (hb : ∀ b, b < n → H'[b]? = H[b]? ∧ β' b = β b) (hw : ∀ k x, Wr H' β' k x → Wr H β k x) {c : AV} {x : Value} (h : Rep w H β c x) (hl : Lt n c) : Rep w H' β' c x := by
  induction h with
  | v x => exact .v x
  | dead x => exact .dead x
  | emp a => exact .emp a
  | lit n sz gs v _ hk ih =>
    cases hl with
    | lit _ _ _ hl =>
      obtain ⟨k, s, m, cap, e, h1, h2, h3⟩ := hk
      exact .lit n sz gs v (ih hl) ⟨k, s, m, cap, e, h1, h2, fun y h => h3 y (hw _ _ h)⟩
  | agg cs vs hle _ ih =>
    cases hl with
    | agg _ hl => exact .agg cs vs hle fun i c x h1 h2 => ih i c x h1 h2 (hl i c h1)
  | tup cs vs hle _ ih =>
    cases hl with
    | tup _ hl => exact .tup cs vs hle fun i c x h1 h2 => ih i c x h1 h2 (hl i c h1)
  | lst0 sz a cap => exact .lst0 sz a cap
  | lst sz gs k s cap x hn hg hc _ ih =>
    cases hl with
    | lst _ _ hl =>
      exact .lst sz gs k s cap x hn hg (fun i j g c hi hj => by
        obtain ⟨h1, h2, h3⟩ := hc i j g c hi hj
        exact ⟨h1, h2, fun h => h3 (hw _ _ h)⟩) fun i j g c hi hj => ih i j g c hi hj (hl i j g c hi hj)
  | sl b g o m sz full x bx hb' hg hx h =>
    cases hl with
    | sl _ _ _ _ _ _ hl =>
      obtain ⟨e1, e2⟩ := hb b hl
      exact .sl b g o m sz full x bx (by rw [e1]; exact hb') hg hx (by rw [e2]; exact h)
  | ptr b g o x bx hb' hg hx h =>
    cases hl with
    | ptr _ _ _ hl =>
      obtain ⟨e1, e2⟩ := hb b hl
      exact .ptr b g o x bx (by rw [e1]; exact hb') hg hx (by rw [e2]; exact h)
  | bself b g e x bx hb' hg hx h =>
    cases hl with
    | bself _ _ _ hl =>
      obtain ⟨e1, e2⟩ := hb b hl
      exact .bself b g e x bx (by rw [e1]; exact hb') hg hx (by rw [e2]; exact h)
  | bs b g n e x bx hb' hg hx h ht =>
    cases hl with
    | bs _ _ _ _ hl =>
      obtain ⟨e1, e2⟩ := hb b hl
      exact .bs b g n e x bx (by rw [e1]; exact hb') hg hx (by rw [e2]; exact h) ht
  | bp b g n e x hx h =>
    cases hl with
    | bp _ _ _ _ hl =>
      refine .bp b g n e x hx fun h0 => ?_
      obtain ⟨e1, e2⟩ := hb b (hl h0)
      obtain ⟨bx, h1, h2, h3⟩ := h h0
      exact ⟨bx, by rw [e1]; exact h1, h2, by rw [e2]; exact h3⟩
  | elt g j k s x hc _ ih =>
    cases hl with
    | elt _ _ hl =>
      exact .elt g j k s x (fun j c hj => by
        obtain ⟨h1, h2, h3⟩ := hc j c hj
        exact ⟨h1, h2, fun h => h3 (hw _ _ h)⟩) fun j c hj => ih j c hj (hl j c hj)
  | fn f cs vs hle _ ih =>
    cases hl with
    | fn _ _ hl => exact .fn f cs vs hle fun i c x h1 h2 => ih i c x h1 h2 (hl i c h1)

theorem Inv.ltCells {base : Nat} {w : World} {H : List Box} {β : Pl} (hI : Inv base w H β) {i : Nat} {bx : Box} (hi : H[i]? = some bx) {j : Nat} {c : AV} (hj : bx.cells[j]? = some c) : Lt H.length c := by
  cases hb : β i with
  | none =>
    rw [hI.virt i bx hi hb] at hj
    simp at hj
  | some ks =>
    obtain ⟨k, s⟩ := ks
    obtain ⟨x, _, _, h⟩ := hI.cells i bx k s hi hb j c hj
    exact h.lt

/-! ### What is forgotten at a function's end -/
def Shed (E : Ent) (r : AV) (H : List Box) (r' : AV) (H' : List Box) : Prop :=
  ∀ (w : World) (β : Pl) (v : Value), Inv E.base w H β → Stp E.base E.w E.H E.β w H β → Rep w H β r v → ∃ β', Inv E.base w H' β' ∧ Stp E.base E.w E.H E.β w H' β' ∧ Rep w H' β' r' v
theorem Shed.refl (E : Ent) (r : AV) (H : List Box) : Shed E r H r H := fun w β v h1 h2 h3 => ⟨β, h1, h2, h3⟩
theorem Shed.trans {E : Ent} {r r' r'' : AV} {H H' H'' : List Box} (h : Shed E r H r' H') (h' : Shed E r' H' r'' H'') : Shed E r H r'' H'' := fun w β v h1 h2 h3 => by
  obtain ⟨β', g1, g2, g3⟩ := h w β v h1 h2 h3
  exact h' w β' v g1 g2 g3

/-- Boxes beyond the first m are forgotten; m is at least what there was at the begin. -/
theorem cut_inv {E : Ent} {w : World} {H N : List Box} {β : Pl} (hI : Inv E.base w (H ++ N) β) (hs : Stp E.base E.w E.H E.β w (H ++ N) β) (hlt : ∀ (i : Nat) (bx : Box), H[i]? = some bx → ∀ (j : Nat) (c : AV), bx.cells[j]? = some c → Lt H.length c) (hE : E.H.length ≤ H.length) :
    Inv E.base w H β ∧ Stp E.base E.w E.H E.β w H β ∧ ∀ (c : AV) (x : Value), Lt H.length c → Rep w (H ++ N) β c x → Rep w H β c x := by
  have hget : ∀ i bx, H[i]? = some bx → (H ++ N)[i]? = some bx := fun i bx h => by rw [List.getElem?_append_left (List.getElem?_eq_some_iff.1 h).1]; exact h
  have hwr : ∀ k x, Wr H β k x → Wr (H ++ N) β k x := fun k x ⟨i, bx, s, h1, h2⟩ => ⟨i, bx, s, hget i bx h1, h2⟩
  have hmv : ∀ (c : AV) (x : Value), Lt H.length c → Rep w (H ++ N) β c x → Rep w H β c x := fun c x hl h => h.move (n := H.length) (fun b hb => ⟨by rw [List.getElem?_append_left hb], rfl⟩) hwr hl
  refine ⟨⟨hI.bse, fun i bx h => hI.ro i bx (hget i bx h), fun i bx h => hI.virt i bx (hget i bx h), fun i bx k s h => hI.real i bx k s (hget i bx h), fun i bx k s h hl j c hj => ?_, fun k x h => hI.free k x (hwr k x h), fun i i' bx bx' k s s' x hne h h' => hI.apart i i' bx bx' k s s' x hne (hget i bx h) (hget i' bx' h')⟩, ?_, hmv⟩
  · obtain ⟨x, g1, g2, g3⟩ := hI.cells i bx k s (hget i bx h) hl j c hj
    exact ⟨x, g1, g2, hmv c x (hlt i bx h j c hj) g3⟩
  · refine ⟨hs.os, hs.tape, hs.output, hs.size, hs.shape, hs.other, hs.keep, fun k x hk h => hs.wr k x hk (hwr k x h), fun b bx hb => ?_⟩
    obtain ⟨bx', h1, h2⟩ := hs.ids b bx hb
    have hbl := (List.getElem?_eq_some_iff.1 hb).1
    rw [List.getElem?_append_left (by omega)] at h1
    exact ⟨bx', h1, h2⟩

/-- All new boxes are forgotten. -/
theorem Shed.cut {E : Ent} {r : AV} {N : List Box} (hr : Lt 0 r) : Shed E r (E.H ++ N) r E.H := fun w β v hI hs h => by
  obtain ⟨h1, h2, h3⟩ := cut_inv hI hs (fun i bx hi j c hj => E.inv.ltCells hi hj) (Nat.le_refl _)
  exact ⟨β, h1, h2, h3 r v (hr.mono (Nat.zero_le _)) h⟩

/-- One new box stays, the one of the slice that is handed back. -/
theorem Shed.own {E : Ent} {N : List Box} {b g n sz : Nat} {full : Bool} {bx : Box} (hb : (E.H ++ N)[b]? = some bx) (hg : bx.gen = g) (hge : E.H.length ≤ b) (hc : ∀ (j : Nat) (c : AV), bx.cells[j]? = some c → Lt 0 c) :
    Shed E (.sl b g 0 n sz full) (E.H ++ N) (.sl E.H.length 0 0 n sz full) (E.H ++ [⟨bx.cells, bx.ro, 0, bx.grow⟩]) := fun w β v hI hs h => by
  obtain ⟨bx0, e1, e2, hsl⟩ := live_sl (by simp [live, hb, hg]) h
  rw [hb] at e1
  obtain rfl := Option.some.inj e1
  let H' := E.H ++ [(⟨bx.cells, bx.ro, 0, bx.grow⟩ : Box)]
  let β' : Pl := fun i => if i = E.H.length then β b else β i
  have hget : ∀ i bi, H'[i]? = some bi → (i = E.H.length ∧ bi = ⟨bx.cells, bx.ro, 0, bx.grow⟩) ∨ (i < E.H.length ∧ E.H[i]? = some bi) := by
    intro i bi h
    rcases Nat.lt_trichotomy i E.H.length with hi | hi | hi
    · simp only [H', List.getElem?_append_left hi] at h
      exact .inr ⟨hi, h⟩
    · subst hi
      simp [H'] at h
      exact .inl ⟨rfl, h.symm⟩
    · have hi0 : i - E.H.length ≠ 0 := by omega
      simp only [H'] at h
      rw [List.getElem?_append_right (by omega)] at h
      simp [hi0] at h
  have hb1 : β' E.H.length = β b := if_pos rfl
  have hb2 : ∀ i, i < E.H.length → β' i = β i := fun i hi => if_neg (by omega)
  have hold : ∀ i bi, E.H[i]? = some bi → (E.H ++ N)[i]? = some bi := fun i bi h => by rw [List.getElem?_append_left (List.getElem?_eq_some_iff.1 h).1]; exact h
  have hwr : ∀ k x, Wr H' β' k x → Wr (E.H ++ N) β k x := by
    rintro k x ⟨i, bi, s, h1, h2, h3, h4⟩
    rcases hget i bi h1 with ⟨rfl, rfl⟩ | ⟨hi, h1⟩
    · rw [hb1] at h2
      exact ⟨b, bx, s, hb, h2, h3, h4⟩
    · rw [hb2 i hi] at h2
      exact ⟨i, bi, s, hold i bi h1, h2, h3, h4⟩
  have hmv : ∀ (c : AV) (x : Value), Lt E.H.length c → Rep w (E.H ++ N) β c x → Rep w H' β' c x := fun c x hl h =>
    h.move (n := E.H.length) (fun i hi => ⟨by simp only [H']; rw [List.getElem?_append_left hi, List.getElem?_append_left hi], hb2 i hi⟩) hwr hl
  have hbne : ∀ i, i < E.H.length → b ≠ i := fun i hi => by omega
  refine ⟨β', ⟨hI.bse, fun i bi hi => ?_, fun i bi hi hv => ?_, fun i bi k s hi hl => ?_, fun i bi k s hi hl j c hj => ?_, fun k x h => hI.free k x (hwr k x h), fun i i' bi bi' k s s' x hne hi hi' hl hl' h1 h2 h3 => ?_⟩, ⟨hs.os, hs.tape, hs.output, hs.size, hs.shape, hs.other, hs.keep, fun k x hk h => hs.wr k x hk (hwr k x h), fun i bi hi => ?_⟩, ?_⟩
  · rcases hget i bi hi with ⟨rfl, rfl⟩ | ⟨hi', h⟩
    · exact hI.ro b bx hb
    · exact hI.ro i bi (hold i bi h)
  · rcases hget i bi hi with ⟨rfl, rfl⟩ | ⟨hi', h⟩
    · rw [hb1] at hv; exact hI.virt b bx hb hv
    · rw [hb2 i hi'] at hv; exact hI.virt i bi (hold i bi h) hv
  · rcases hget i bi hi with ⟨rfl, rfl⟩ | ⟨hi', h⟩
    · rw [hb1] at hl; exact hI.real b bx k s hb hl
    · rw [hb2 i hi'] at hl; exact hI.real i bi k s (hold i bi h) hl
  · rcases hget i bi hi with ⟨rfl, rfl⟩ | ⟨hi', h⟩
    · rw [hb1] at hl
      obtain ⟨x, g1, g2, g3⟩ := hI.cells b bx k s hb hl j c hj
      exact ⟨x, g1, g2, hmv c x ((hc j c hj).mono (Nat.zero_le _)) g3⟩
    · rw [hb2 i hi'] at hl
      obtain ⟨x, g1, g2, g3⟩ := hI.cells i bi k s (hold i bi h) hl j c hj
      exact ⟨x, g1, g2, hmv c x (E.inv.ltCells h hj) g3⟩
  · rcases hget i bi hi with ⟨rfl, rfl⟩ | ⟨hx, h⟩
    · rcases hget i' bi' hi' with ⟨rfl, rfl⟩ | ⟨hx', h'⟩
      · exact absurd rfl hne
      · rw [hb1] at hl
        rw [hb2 i' hx'] at hl'
        exact hI.apart b i' bx bi' k s s' x (hbne i' hx') hb (hold i' bi' h') hl hl' h1 h2 h3
    · rw [hb2 i hx] at hl
      rcases hget i' bi' hi' with ⟨rfl, rfl⟩ | ⟨hx', h'⟩
      · rw [hb1] at hl'
        exact hI.apart i b bi bx k s s' x (Ne.symm (hbne i hx)) (hold i bi h) hb hl hl' h1 h2 h3
      · rw [hb2 i' hx'] at hl'
        exact hI.apart i i' bi bi' k s s' x hne (hold i bi h) (hold i' bi' h') hl hl' h1 h2 h3
  · obtain ⟨bx', h1, h2, h3⟩ := hs.ids i bi hi
    have hil := (List.getElem?_eq_some_iff.1 hi).1
    rw [List.getElem?_append_left hil] at h1
    exact ⟨bx', by simp only [List.getElem?_append_left hil]; exact h1, h2, fun e => by rw [hb2 i hil]; exact h3 e⟩
  · refine rep_sl (bx := ⟨bx.cells, bx.ro, 0, bx.grow⟩) (by simp) rfl ?_
    rw [hb1]
    exact hsl

/-- An empty slice as one of a new box. -/
theorem Shed.emp {E : Ent} {sz : Nat} : Shed E .emp E.H (.sl E.H.length 0 0 0 sz false) (E.H ++ [⟨[], 0, 0, true⟩]) := fun w β v hI hs h => by
  obtain ⟨h1, h2⟩ := newv hI 0 0 rfl
  cases h with
  | emp a => exact ⟨_, h1, hs.trans h2, rep_sl (bx := ⟨[], 0, 0, true⟩) (by simp) rfl ⟨a, 0, rfl, Nat.le_refl _, by simp, fun hh => absurd hh (by omega)⟩⟩

/-- A slice of one's own is handed on to be read. -/
theorem acall.freeze {P : Program} {base : Nat} {f : FuncId} {pre post : List AV} {H : List Box} {K : Out → List Box → Prop} {b g off n sz : Nat} {full : Bool} {bx : Box} (hb : H[b]? = some bx) (hg : bx.gen = g) (hfit : off + n * sz ≤ bx.cells.length)
    (h : acall P base f (pre ++ .lst sz (chunk sz n (bx.cells.drop off)) :: post) (H.set b { bx with ro := max bx.ro (off + n * sz) }) K) : acall P base f (pre ++ .sl b g off n sz full :: post) H K := by
  refine fun w β vs hI hr => ?_
  obtain ⟨h1, h2⟩ := freeze_inv hI hb hfit
  have hbl : b < H.length := (List.getElem?_eq_some_iff.1 hb).1
  refine (h w β vs h1 ⟨by simpa using hr.1, fun i c x hi hx => ?_⟩).mono fun e w' ⟨out, H', β', k1, k2, k3, k4⟩ => ⟨out, H', β', k1, k2, k3, h2.trans k4⟩
  by_cases hip : i = pre.length
  · subst hip
    simp at hi
    subst hi
    have := (hr.2 pre.length (.sl b g off n sz full) x (by simp) hx).stp h2
    have hv := rep_view (bx := { bx with ro := max bx.ro (off + n * sz) }) h1 (List.getElem?_set_self hbl) hg (Nat.le_max_right _ _) this
    exact hv
  · refine (hr.2 i c x ?_ hx).stp h2
    rw [← hi]
    rcases Nat.lt_or_ge i pre.length with hlt | hge
    · rw [List.getElem?_append_left hlt, List.getElem?_append_left hlt]
    · rw [List.getElem?_append_right hge, List.getElem?_append_right hge]
      obtain ⟨d, hd⟩ : ∃ d, i - pre.length = d + 1 := ⟨i - pre.length - 1, by omega⟩
      rw [hd, List.getElem?_cons_succ, List.getElem?_cons_succ]
/-- An empty slice is handed on to be read. -/
theorem acall.empty {P : Program} {base : Nat} {f : FuncId} {pre post : List AV} {H : List Box} {K : Out → List Box → Prop} (sz : Nat) (h : acall P base f (pre ++ .lst sz [] :: post) H K) : acall P base f (pre ++ .emp :: post) H K := by
  refine fun w β vs hI hr => h w β vs hI ⟨by simpa using hr.1, fun i c x hi hx => ?_⟩
  by_cases hip : i = pre.length
  · subst hip
    simp at hi
    subst hi
    have := hr.2 pre.length .emp x (by simp) hx
    cases this with
    | emp a => exact .lst0 _ _ _
  · refine hr.2 i c x ?_ hx
    rw [← hi]
    rcases Nat.lt_or_ge i pre.length with hlt | hge
    · rw [List.getElem?_append_left hlt, List.getElem?_append_left hlt]
    · rw [List.getElem?_append_right hge, List.getElem?_append_right hge]
      obtain ⟨d, hd⟩ : ∃ d, i - pre.length = d + 1 := ⟨i - pre.length - 1, by omega⟩
      rw [hd, List.getElem?_cons_succ, List.getElem?_cons_succ]

/-! ### A function's body -/
def ares1 (P : Program) (l : List (Nat × AV)) (H : List Box) : ResultVar → Option AV
  | .tmp t => some (lk l t)
  | .cell a t => aloadAt P t H (lk l a)
def aresL (P : Program) (l : List (Nat × AV)) (H : List Box) : List ResultVar → Option (List AV)
  | [] => some []
  | r :: rs => match ares1 P l H r, aresL P l H rs with
    | some x, some xs => some (x :: xs)
    | _, _ => none
def ares (P : Program) (l : List (Nat × AV)) (H : List Box) (rs : List ResultVar) : Option AV :=
  match aresL P l H rs with
  | some [x] => some x
  | some xs => some (.tup xs)
  | none => none

theorem ares1_run {P : Program} {E : Ent} {σ : ASt} {β : Pl} {a : Act} {w : World} (hs : SimB E σ β a w) {rv : ResultVar} {r : AV} (h : ares1 P σ.tmps σ.H rv = some r) :
    ∃ v, (match rv with | .tmp t => pure (a.tmps.getD t undef) | .cell x t => do loadVar t (← asAddr (a.tmps.getD x undef)) : Sem Value).run P w = .ok v w ∧ Rep w σ.H β r v := by
  cases rv with
  | tmp t =>
    simp only [ares1, Option.some.injEq] at h
    subst h
    exact ⟨_, rfl, hs.tmps t⟩
  | cell x t =>
    simp only [ares1] at h
    have hx := hs.tmps x
    unfold aloadAt at h
    split at h
    · rename_i b g off hAx
      rw [hAx] at hx
      split at h
      · rename_i bx hb
        split at h
        · rename_i hg
          obtain ⟨bx', k, s, h1, h2, h3, h4⟩ := live_ptr (by simp [live, hb, hg]) hx
          rw [hb] at h1
          obtain rfl := Option.some.inj h1
          obtain ⟨v, h5, h6⟩ := run_load_cells h (fun j c hj => by obtain ⟨x, e1, _, e2⟩ := hs.inv.cells b bx k s hb h3 j c hj; exact ⟨x, e1, e2⟩)
          exact ⟨v, by simp only [Sem.run_bind, h4, asAddr, Sem.run_pure, Result.andThen_ok, h5], h6⟩
        · cases h
      · cases h
    · rename_i g j hAx
      rw [hAx] at hx
      generalize hv : a.tmps.getD x undef = v at hx
      cases hx with
      | elt _ _ k s y hc hr =>
        obtain ⟨v, h2, h3⟩ := run_load_cells h (fun j c hj => ⟨y j, (hc j c hj).1, hr j c hj⟩)
        exact ⟨v, by simp only [Sem.run_bind, hv, asAddr, Sem.run_pure, Result.andThen_ok, h2], h3⟩
    · cases h

theorem aresL_run {P : Program} {E : Ent} {σ : ASt} {β : Pl} {a : Act} {w : World} (hs : SimB E σ β a w) : ∀ (rs : List ResultVar) (xs : List AV), aresL P σ.tmps σ.H rs = some xs →
    ∃ vs : List Value, (rs.mapM (fun | .tmp t => pure (a.tmps.getD t undef) | .cell x t => do loadVar t (← asAddr (a.tmps.getD x undef)) : ResultVar → Sem Value)).run P w = .ok vs w ∧ vs.length = xs.length ∧ ∀ (i : Nat) (c : AV) (x : Value), xs[i]? = some c → vs[i]? = some x → Rep w σ.H β c x := by
  intro rs
  induction rs with
  | nil =>
    intro xs h
    simp only [aresL, Option.some.injEq] at h
    subst h
    exact ⟨[], rfl, rfl, by simp⟩
  | cons r rs ih =>
    intro xs h
    simp only [aresL] at h
    split at h
    · rename_i x xs' h1 h2
      injection h with h
      subst h
      obtain ⟨v, g1, g2⟩ := ares1_run hs h1
      obtain ⟨vs, g3, g4, g5⟩ := ih xs' h2
      refine ⟨v :: vs, ?_, by simp [g4], fun i c y hi hy => ?_⟩
      · rw [List.mapM_cons, Sem.run_bind]
        refine (congrArg (fun z => Result.andThen z _) g1).trans ?_
        rw [Result.andThen_ok, Sem.run_bind, g3, Result.andThen_ok]
        rfl
      · cases i with
        | zero => simp at hi hy; subst hi; subst hy; exact g2
        | succ i => exact g5 i c y (by simpa using hi) (by simpa using hy)
    · cases h

theorem ares_run {P : Program} {E : Ent} {σ : ASt} {β : Pl} {a : Act} {w : World} {fn : Func} (hs : SimB E σ β a w) {r : AV} (h : ares P σ.tmps σ.H fn.results.toList = some r) : ∃ v, (results fn a.tmps).run P w = .ok v w ∧ Rep w σ.H β r v := by
  unfold ares at h
  have hm : ∀ (xs : List AV), aresL P σ.tmps σ.H fn.results.toList = some xs → ∃ vs : List Value, (fn.results.mapM (fun | .tmp t => pure (a.tmps.getD t undef) | .cell x t => do loadVar t (← asAddr (a.tmps.getD x undef)) : ResultVar → Sem Value)).run P w = .ok vs.toArray w ∧ vs.length = xs.length ∧ ∀ (i : Nat) (c : AV) (x : Value), xs[i]? = some c → vs[i]? = some x → Rep w σ.H β c x := fun xs hx => by
    obtain ⟨vs, h1, h2, h3⟩ := aresL_run hs _ xs hx
    refine ⟨vs, ?_, h2, h3⟩
    rw [Array.mapM_eq_mapM_toList, Sem.run_map, h1, Result.andThen_ok]
  split at h
  · rename_i x hx
    injection h with h
    subst h
    obtain ⟨vs, h1, h2, h3⟩ := hm _ hx
    cases vs with
    | nil => simp at h2
    | cons v rest =>
      obtain rfl : rest = [] := List.eq_nil_of_length_eq_zero (by simpa using h2)
      refine ⟨v, ?_, h3 0 x v rfl rfl⟩
      unfold results
      rw [Sem.run_bind]
      refine (congrArg (fun z => Result.andThen z _) h1).trans ?_
      rfl
  · rename_i xs hx hne
    injection h with h
    subst h
    obtain ⟨vs, h1, h2, h3⟩ := hm _ hne
    refine ⟨.tuple vs.toArray, ?_, .tup _ _ (by simp [h2]) (fun i c x hi hv => h3 i c x hi (by simpa using hv))⟩
    unfold results
    rw [Sem.run_bind]
    refine (congrArg (fun z => Result.andThen z _) h1).trans ?_
    rw [Result.andThen_ok]
    have : ¬ vs.toArray.size = 1 := fun h => by
      simp at h
      rw [h2] at h
      cases xs with
      | nil => simp at h
      | cons y ys => cases ys with
        | nil => exact hx y rfl
        | cons z zs => simp at h
    rw [dif_neg this]
    rfl
  · cases h

def Fin (E : Ent) (r : AV) (H : List Box) (K : AV → List Box → Prop) : Prop := ∃ r' H', Shed E r H r' H' ∧ K r' H'

def bodyQ (P : Program) (E : Ent) (rs : List ResultVar) (K : Out → List Box → Prop) : AExit → ASt → Prop
  | .normal, σ => ∃ r, ares P σ.tmps σ.H rs = some r ∧ Fin E r σ.H fun r H => K (.ret r) H
  | .ret, σ => ∃ r, ares P σ.tmps σ.H rs = some r ∧ Fin E r σ.H fun r H => K (.ret r) H
  | .panic r, σ => Fin E r σ.H fun r H => K (.pan r) H
  | _, _ => False

def number : Nat → List AV → List (Nat × AV)
  | _, [] => []
  | k, c :: r => (k, c) :: number (k + 1) r
theorem lk_number : ∀ (args : List AV) (k n : Nat), lk (number k args) n = if k ≤ n then (args[n - k]?).getD .dead else .dead := by
  intro args
  induction args with
  | nil => intro k n; simp [number, lk]
  | cons c r ih =>
    intro k n
    simp only [number, lk_cons, ih]
    by_cases h : k = n
    · subst h; simp
    · rw [if_neg h]
      by_cases h1 : k + 1 ≤ n
      · rw [if_pos h1, if_pos (by omega)]
        have : n - k = (n - (k + 1)) + 1 := by omega
        rw [this, List.getElem?_cons_succ]
      · rw [if_neg h1, if_neg (by omega)]

theorem acall_body {P : Program} {base : Nat} {f : FuncId} {fn : Func} {c : Code} {args : List AV} {H : List Box} {K : Out → List Box → Prop} {n : Nat} {rs : List ResultVar} (hf : P.funcs[f]? = some fn) (hb : fn.body = some c) (hen : enters P f) (hnt : fn.ntmps = n) (hrs : fn.results = rs.toArray) (hn : args.length ≤ n)
    (h : ∀ (w : World) (β : Pl) (hI : Inv base w H β), AWP P ⟨base, n, w, H, β, hI, []⟩ c (bodyQ P ⟨base, n, w, H, β, hI, []⟩ rs K) ⟨number 0 args, H⟩) : acall P base f args H K := by
  refine fun w β vs hI hr => .inl ⟨hen vs w, calls_of_wp hf hb ?_⟩
  subst hnt
  have hsim : SimB ⟨base, fn.ntmps, w, H, β, hI, []⟩ ⟨number 0 args, H⟩ β { tmps := vs ++ Array.replicate (fn.ntmps - vs.size) undef, defers := [] } w := by
    refine ⟨rfl, by simp; have := hr.1; omega, hI, Stp.refl _ _ _, fun k => ?_⟩
    simp only [lk_number, Nat.zero_le, if_true, Nat.sub_zero]
    cases hk : args[k]? with
    | none => exact .dead _
    | some cc =>
      have hkl := (List.getElem?_eq_some_iff.1 hk).1
      have hkv : k < vs.size := by have := hr.1; omega
      have : (vs ++ Array.replicate (fn.ntmps - vs.size) undef).getD k undef = vs[k] := by
        rw [Array.getD_eq_getD_getElem?, Array.getElem?_append_left hkv, Array.getElem?_eq_getElem hkv]
        rfl
      rw [this]
      exact hr.2 k cc _ hk (Array.getElem?_eq_getElem hkv)
  refine wp_mono (h w β hI _ w ⟨β, hsim⟩) fun e a' w' hl => ?_
  have hrl : fn.results.toList = rs := by rw [hrs]
  cases e with
  | normal =>
    obtain ⟨σ, ⟨r, h1, r', H', h2, h3⟩, β', hs⟩ := hl
    obtain ⟨v, h4, h5⟩ := ares_run (fn := fn) hs (by rw [hrl]; exact h1)
    obtain ⟨β'', g1, g2, g3⟩ := h2 w' β' v hs.inv hs.stp h5
    exact ⟨hs.defers, v, h4, .ret r', H', β'', h3, g3, g1, g2⟩
  | ret =>
    obtain ⟨σ, ⟨r, h1, r', H', h2, h3⟩, β', hs⟩ := hl
    obtain ⟨v, h4, h5⟩ := ares_run (fn := fn) hs (by rw [hrl]; exact h1)
    obtain ⟨β'', g1, g2, g3⟩ := h2 w' β' v hs.inv hs.stp h5
    exact ⟨hs.defers, v, h4, .ret r', H', β'', h3, g3, g1, g2⟩
  | panic chain =>
    obtain ⟨σ, r, v, β', ⟨r', H', h2, h3⟩, rfl, hs, h5⟩ := hl
    obtain ⟨β'', g1, g2, g3⟩ := h2 w' β' v hs.inv hs.stp h5
    exact ⟨hs.defers, .pan r', H', β'', h3, ⟨v, rfl, g3⟩, g1, g2⟩
  | exit id => obtain ⟨σ, h, _⟩ := hl; exact h.elim
  | goto l => obtain ⟨σ, h, _⟩ := hl; exact h.elim
  | outgrown => exact hl.elim

end Go.Proofs.YtjkdahpoalnjjaaDoor.VL

/- The value logic, part 10b: regions that draw their order, but for their last operations, which wait for all others: these may change boxes. -/
set_option linter.unusedVariables false
set_option linter.unusedSimpArgs false
namespace Go.Proofs.YtjkdahpoalnjjaaDoor.VL
open Go Go.RowKit Go.Lib

section
variable {P : Program} {E : Ent} {ops : Array Oper} {md : Region.Mode} {H : List Box}

def wpAnyLF (P : Program) (E : Ent) (md : Region.Mode) (ops : Array Oper) (H : List Box) (n : Nat) (L : Array Bool → Tmps → Prop) : Nat → Array Bool → Tmps → Prop
  | 0, listed, T => L listed T
  | f + 1, listed, T =>
    Region.ready md ops listed ≠ [] ∧ ∀ i ∈ Region.ready md ops listed, i < n ∧ qOpF P E ops H i (wpAnyLF P E md ops H n L f (listed.setIfInBounds i true)) T

theorem wpAny_of_headF {n g : Nat} {L : Array Bool → Tmps → Prop} {Q' : Exit → Act → World → Prop} (hL : ∀ listed T a w β, SimF E T H β a w → L listed T → wpAny P md ops Q' g listed a w) :
    ∀ (f : Nat) (listed : Array Bool) (T : Tmps) (β : Pl) (a : Act) (w : World), SimF E T H β a w → wpAnyLF P E md ops H n L f listed T → wpAny P md ops Q' (f + g) listed a w
  | 0, listed, T, β, a, w, hs, h => by rw [Nat.zero_add]; exact hL _ _ _ _ _ hs h
  | f + 1, listed, T, β, a, w, hs, h => by
    rw [show f + 1 + g = (f + g) + 1 by omega]
    exact ⟨fun h0 => absurd h0 h.1, fun i hi => wpOp_of_F hs (fun T a w β hs' hk => wpAny_of_headF hL f _ T β a w hs' hk) (h.2 i hi).2⟩

theorem wpAnyLF_first {n i : Nat} {oi : Oper} {v : AV} {L : Array Bool → Tmps → Prop} (hi : ops[i]? = some oi)
    (hs : Region.sinkB md ops n = true) (hc : Region.chainB md ops n = true) (hn : n < ops.size) (hin : i < n)
    (hdone : ∀ listed T, L listed T → ∀ j ∈ Region.ready md ops listed, n ≤ j) :
    ∀ (f : Nat) (listed : Array Bool) (T : Tmps), HeadInv md ops n listed →
      (∀ j oj, ops[j]? = some oj → j ≠ i → listed.getD j true = false → (∀ e ∈ oj.after, Region.binds md e = true → e.on ≠ i) → oi.apart ops oj = true) →
      i ∈ Region.ready md ops listed → QY P E ops H oi v T →
      wpAnyLF P E md ops H n L f (listed.setIfInBounds i true) (fput T oi.dst v) → wpAnyLF P E md ops H n L (f + 1) listed T := by
  intro f
  induction f with
  | zero =>
    intro listed T inv _ hr hy HH
    have hun := (mem_ready.1 hr).1
    refine ⟨fun h => (by rw [h] at hr; cases hr), fun j hj => ?_⟩
    have hjn : j < n := by
      rcases Nat.lt_or_ge j n with h | h
      · exact h
      · exact absurd hj (tail_waits hs hc hn inv _ i rfl hin hun j h)
    refine ⟨hjn, ?_⟩
    by_cases hji : j = i
    · subst hji; exact hy.qOp hi HH
    · have := hdone _ _ HH j (ready_mono hj hji)
      omega
  | succ f ih =>
    intro listed T inv hfree hr hy HH
    have hun := (mem_ready.1 hr).1
    refine ⟨fun h => (by rw [h] at hr; cases hr), fun j hj => ?_⟩
    have hjn : j < n := by
      rcases Nat.lt_or_ge j n with h | h
      · exact h
      · exact absurd hj (tail_waits hs hc hn inv _ i rfl hin hun j h)
    refine ⟨hjn, ?_⟩
    by_cases hji : j = i
    · subst hji; exact hy.qOp hi HH
    · have h1 := (HH.2 j (ready_mono hj hji)).2
      obtain ⟨hjun, oj, hoj, hall⟩ := mem_ready.1 hj
      have hnot : ∀ e ∈ oj.after, Region.binds md e = true → e.on ≠ i := fun e he hb heq => by
        have h1 := hall e he hb
        rw [heq, getD_both hun] at h1
        cases h1
      have h2 := qOpF_put hoj (hfree j oj hoj hji hjun hnot) hy h1
      have hfree' : ∀ k ok, ops[k]? = some ok → k ≠ i → (listed.setIfInBounds j true).getD k true = false →
          (∀ e ∈ ok.after, Region.binds md e = true → e.on ≠ i) → oi.apart ops ok = true := fun k ok hk hki hun hno => by
        refine hfree k ok hk hki ?_ hno
        by_cases hjk : j = k
        · subst hjk; exact hjun
        · rw [getD_set_ne true hjk] at hun; exact hun
      refine qOpF_mono (fun a' h3 => ih (listed.setIfInBounds j true) a' (inv.set hj hjn) hfree' (ready_mono hr (Ne.symm hji)) h3.1 ?_) h2
      rw [Array.setIfInBounds_comm _ _ hji]
      exact h3.2

theorem wpAnyLF_lex {n g : Nat} {Lq : Tmps → Prop} (hs : Region.sinkB md ops n = true) (hc : Region.chainB md ops n = true) (hn : n < ops.size) :
    ∀ (l : List Oper) (k : Nat) (listed : Array Bool) (T : Tmps), (∀ j, j < l.length → l[j]? = ops[k + j]?) → k + l.length = n → HeadInv md ops n listed →
    Region.lexHead md ops g l.length k listed = true → wpQ P E ops H Lq l T →
    wpAnyLF P E md ops H n (fun listed' T' => Region.seqB md ops g n listed' = true ∧ Lq T') l.length listed T
  | [], k, listed, T, _, hk, _, hB, h => by
    have : k = n := by simpa using hk
    subst this
    exact ⟨by simpa [Region.lexHead] using hB, h⟩
  | o :: l, k, listed, T, hl, hk, inv, hB, h => by
    have h0 : ops[k]? = some o := by simpa using (hl 0 (by simp)).symm
    simp only [List.length_cons, Region.lexHead, Bool.and_eq_true] at hB
    obtain ⟨⟨hr, hf⟩, hB'⟩ := hB
    have hkn : k < n := by simp only [List.length_cons] at hk; omega
    have hr' : k ∈ Region.ready md ops listed := by simpa using hr
    obtain ⟨v, hy, hK⟩ := h
    exact wpAnyLF_first h0 hs hc hn hkn (fun listed' a' hL => seqB_ready hL.1) l.length listed T inv (Region.free_spec h0 hf) hr' hy
      (wpAnyLF_lex hs hc hn l (k + 1) _ _ (fun j hj => by have := hl (j + 1) (by simp; omega); simpa [Nat.add_assoc, Nat.add_comm 1 j] using this) (by simp only [List.length_cons] at hk; omega) (inv.set hr' hkn) hB' hK)

theorem AWP.drawT {Q : AExit → ASt → Prop} {id : Nat} {os : List Oper} {l : List (Nat × AV)} (n : Nat) (hm : P.follows .mixedOrders = true) (hB : Region.lexTailB .any os.toArray n = true)
    (h : qops P E os.toArray H (fun l => aops P E os.toArray Q (os.drop n) ⟨l, H⟩) (os.take n) l) : AWP P E (.region id os.toArray true) Q ⟨l, H⟩ := fun a w ⟨β, hs⟩ => by
  simp only [Region.lexTailB, Bool.and_eq_true, decide_eq_true_eq] at hB
  obtain ⟨⟨⟨⟨hsel, hn⟩, hsi⟩, hc⟩, hlex⟩ := hB
  have hn' : n < os.length := by simpa using hn
  have htl : (os.take n).length = n := by simp; omega
  have hdl : (os.drop n).length = os.toArray.size - n := by simp
  obtain ⟨i1, i2⟩ := still (w' := { w with drawn := w.drawn + 1 }) hs.inv (Wor.drawn w _) (fun _ _ _ => rfl)
  have hsf : SimF E (lk l) H β a { w with drawn := w.drawn + 1 } := ⟨hs.defers, hs.size, i1, hs.stp.trans i2, fun k => (hs.tmps k).stp i2⟩
  have inv0 : HeadInv .any os.toArray n (Array.replicate os.toArray.size false) :=
    ⟨by simp, fun j oj _ hl => (by rw [getD_replicate_false] at hl; cases hl), fun t _ ht => getD_in (by simpa using ht) (getD_replicate_false _ _)⟩
  have HH := wpAnyLF_lex (P := P) (E := E) (H := H) (md := .any) (g := os.toArray.size - n) (Lq := fun T => ∃ l', T = lk l' ∧ aops P E os.toArray Q (os.drop n) ⟨l', H⟩) hsi hc hn (os.take n) 0 _ (lk l) (fun j hj => by
    have hj' : j < n := by rw [htl] at hj; exact hj
    simp [hj']) (by simpa using htl) inv0 (by rw [htl]; exact hlex) (wpQ_of_qops (fun l hq => ⟨l, rfl, hq⟩) _ _ h)
  refine wp_region_any hm ?_
  have := wpAny_of_headF (P := P) (E := E) (H := H) (md := .any) (Q' := lift E Q) (g := os.toArray.size - n) (fun listed T a' w' β' hs' hL => by
    obtain ⟨hq, l', rfl, ha⟩ := hL
    have hsim : Sim E ⟨l', H⟩ a' w' := ⟨β', ⟨hs'.defers, hs'.size, hs'.inv, hs'.stp, hs'.tmps⟩⟩
    have := wpAny_of_seq (md := .any) (Q' := lift E Q) (os.drop n) n listed a' w' (fun j => by simp [List.getElem?_drop]) (by rw [hdl]; exact hq) (aops_sound _ _ ha a' w' hsim)
    rwa [hdl] at this) _ _ _ _ _ _ hsf HH
  rw [htl, show n + (os.toArray.size - n) = os.toArray.size by omega] at this
  exact this
theorem AWP.drawT_k {Q : AExit → ASt → Prop} {id : Nat} {os : List Oper} {l : List (Nat × AV)} (hm : P.follows .mixedOrders = true) (hB : Region.lexTailB .any os.toArray (os.length - 1) = true)
    (h : ∀ Q' : AExit → ASt → Prop, (∀ e σ, Q e σ → Q' e σ) → qops P E os.toArray H (fun l => aops P E os.toArray Q' (os.drop (os.length - 1)) ⟨l, H⟩) (os.take (os.length - 1)) l) :
    AWP P E (.region id os.toArray true) Q ⟨l, H⟩ := AWP.drawT _ hm hB (h Q fun _ _ h => h)
end
end Go.Proofs.YtjkdahpoalnjjaaDoor.VL

/- The value logic, part 10c: regions that draw their order: a head whose order doesn't matter, a gate, and a tail of which each order is walked. -/
set_option linter.unusedVariables false
set_option linter.unusedSimpArgs false
namespace Go.Proofs.YtjkdahpoalnjjaaDoor.VL
open Go Go.RowKit Go.Lib

/-- One operation with its guard. -/
def astep (P : Program) (E : Ent) (ops : Array Oper) (Q : AExit → ASt → Prop) (o : Oper) (K : ASt → Prop) (σ : ASt) : Prop :=
  match o.guard with
  | none => aone P E Q o K σ
  | some (j, want) => match ayield ops σ.tmps j with
    | some (some t) => Branch t want σ (aone P E Q o K) (askip E o K)
    | some none => askip E o K σ
    | none => False
theorem aops_cons {P : Program} {E : Ent} {ops : Array Oper} {Q : AExit → ASt → Prop} {o : Oper} {rest : List Oper} {σ : ASt} : aops P E ops Q (o :: rest) σ = astep P E ops Q o (aops P E ops Q rest) σ := rfl

def plainOp (o : Oper) : Bool := match o.op with | .call { callee := .value _, .. } => false | _ => true
theorem aone_conj {P : Program} {E : Ent} {Q : AExit → ASt → Prop} {o : Oper} {σ : ASt} {ι : Type} {S : ι → Prop} {K : ι → ASt → Prop} (hp : plainOp o = true) (hne : ∃ e, S e) (h : ∀ e, S e → aone P E Q o (K e) σ) : aone P E Q o (fun σ => ∀ e, S e → K e σ) σ := by
  obtain ⟨e0, h0⟩ := hne
  unfold plainOp at hp
  unfold aone at h ⊢
  refine ⟨(h e0 h0).1, ?_⟩
  split
  · rename_i f args ts ho
    rw [ho] at hp
    cases hp
  · rename_i t x yt ho
    have h1 := (h e0 h0).2
    rw [ho] at h1
    refine ⟨h1.1, ?_⟩
    split
    · rename_i C hC
      intro b hb e he
      have h2 := (h e he).2
      rw [ho] at h2
      have h3 := h2.2
      rw [hC] at h3
      exact h3 b hb
    · rename_i hC
      have h3 := h1.2
      rw [hC] at h3
      exact h3
  · rename_i x ho
    have h1 := (h e0 h0).2
    rw [ho] at h1
    exact h1
  · rename_i h1 h2 h4
    have key : ∀ e, S e → match aop P o.type E.base (aeval σ.tmps) σ.H o.op with
        | some (r, H') => K e ⟨put σ.tmps o.dst r, H'⟩
        | none => False := fun e he => by
      have h3 := (h e he).2
      split at h3
      · rename_i f args ts ho; exact absurd ho (h1 f args ts)
      · rename_i t x yt ho; exact absurd ho (h2 t x yt)
      · rename_i x ho; exact absurd ho (h4 x)
      · exact h3
    split
    · rename_i r H' hop
      intro e he
      have := key e he
      rw [hop] at this
      exact this
    · rename_i hop
      have := key e0 h0
      rw [hop] at this
      exact this
theorem astep_conj {P : Program} {E : Ent} {ops : Array Oper} {Q : AExit → ASt → Prop} {o : Oper} {σ : ASt} {ι : Type} {S : ι → Prop} {K : ι → ASt → Prop} (hp : plainOp o = true) (hne : ∃ e, S e) (h : ∀ e, S e → astep P E ops Q o (K e) σ) : astep P E ops Q o (fun σ => ∀ e, S e → K e σ) σ := by
  unfold astep at h ⊢
  split
  · rename_i hg
    simp only [hg] at h
    exact aone_conj hp hne h
  · rename_i j want hg
    simp only [hg] at h
    split
    · rename_i t hy
      simp only [hy] at h
      refine ⟨fun ht => aone_conj hp hne fun e he => (h e he).1 ht, fun ht => ?_⟩
      obtain ⟨e0, h0⟩ := hne
      exact ⟨((h e0 h0).2 ht).1, fun e he => ((h e he).2 ht).2⟩
    · rename_i hy
      simp only [hy] at h
      obtain ⟨e0, h0⟩ := hne
      exact ⟨(h e0 h0).1, fun e he => (h e he).2⟩
    · rename_i hy
      simp only [hy] at h
      obtain ⟨e0, h0⟩ := hne
      exact h e0 h0

/-- What behind i comes of orders. -/
def tailsOf (i : Nat) (es : List (List Nat)) : List (List Nat) := es.filterMap fun e => match e with
  | [] => none
  | j :: r => if j = i then some r else none
theorem mem_tailsOf {i : Nat} {es : List (List Nat)} {r : List Nat} (h : r ∈ tailsOf i es) : i :: r ∈ es := by
  simp only [tailsOf, List.mem_filterMap] at h
  obtain ⟨e, he, h⟩ := h
  split at h
  · cases h
  · rename_i j r'
    split at h
    · rename_i hj
      injection h with h
      rw [← h, ← hj]
      exact he
    · cases h
def coverB (md : Region.Mode) (ops : Array Oper) : Nat → Array Bool → List (List Nat) → Bool
  | 0, listed, es => (Region.ready md ops listed).isEmpty && es.contains []
  | f + 1, listed, es => if (Region.ready md ops listed).isEmpty then es.contains [] else
      (Region.ready md ops listed).all fun i => (match ops[i]? with | some o => plainOp o | none => false) && (!(tailsOf i es).isEmpty && coverB md ops f (listed.setIfInBounds i true) (tailsOf i es))
def pickO (ops : List Oper) (e : List Nat) : List Oper := e.filterMap fun i => ops[i]?

theorem astep_sound {P : Program} {E : Ent} {ops : Array Oper} {Q : AExit → ASt → Prop} {i : Nat} {o : Oper} {K : ASt → Prop} {σ : ASt} {a : Act} {w : World} {K' : Act → World → Prop} (hi : ops[i]? = some o) (h : astep P E ops Q o K σ) (hs : Sim E σ a w)
    (hK : ∀ σ' a' w', K σ' → Sim E σ' a' w' → K' a' w') : wpOp P ops (lift E Q) i K' a w := by
  obtain ⟨β, hs⟩ := hs
  unfold wpOp
  simp only [hi]
  unfold astep at h
  split at h
  · rename_i hg
    rw [if_pos (by simp [Region.wanted, hg])]
    exact .inl (aone_sound h hs hK)
  · rename_i j want hg
    split at h
    · rename_i t hy
      have hyy := yield_sim hs hy
      by_cases ht : t = want
      · rw [if_pos (by simp [Region.wanted, hg, hyy, ht])]
        exact .inl (aone_sound (h.1 ht) hs hK)
      · rw [if_neg (by simp [Region.wanted, hg, hyy, ht])]
        obtain ⟨h1, h2⟩ := h.2 ht
        exact hK _ _ _ h2 ⟨β, hs.put o.dst h1 hs.inv (Stp.refl _ _ _) (.v _)⟩
    · rename_i hy
      have hyy := yield_sim hs hy
      rw [if_neg (by simp [Region.wanted, hg, hyy])]
      obtain ⟨h1, h2⟩ := h
      exact hK _ _ _ h2 ⟨β, hs.put o.dst h1 hs.inv (Stp.refl _ _ _) (.v _)⟩
    · exact h.elim

theorem wpAny_of_cover {P : Program} {E : Ent} {os : List Oper} {Q : AExit → ASt → Prop} {md : Region.Mode} : ∀ (f : Nat) (listed : Array Bool) (es : List (List Nat)) (σ : ASt) (a : Act) (w : World), coverB md os.toArray f listed es = true →
    (∀ e, e ∈ es → aops P E os.toArray Q (pickO os e) σ) → Sim E σ a w → wpAny P md os.toArray (lift E Q) f listed a w
  | 0, listed, es, σ, a, w, hc, h, hs => by
    simp only [coverB, Bool.and_eq_true, List.isEmpty_iff, List.contains_iff_mem] at hc
    exact ⟨hc.1, σ, h [] hc.2, hs⟩
  | f + 1, listed, es, σ, a, w, hc, h, hs => by
    simp only [coverB] at hc
    split at hc
    · rename_i he
      simp only [List.isEmpty_iff] at he
      simp only [List.contains_iff_mem] at hc
      exact ⟨fun _ => ⟨σ, h [] hc, hs⟩, fun i hi => by rw [he] at hi; cases hi⟩
    · rename_i he
      refine ⟨fun h0 => absurd (by rw [h0]; rfl) he, fun i hi => ?_⟩
      have hc := List.all_eq_true.1 hc i hi
      simp only [Bool.and_eq_true, Bool.not_eq_true'] at hc
      obtain ⟨hp, hne, hcov⟩ := hc
      cases hio : os.toArray[i]? with
      | none => rw [hio] at hp; cases hp
      | some o =>
        rw [hio] at hp
        have hoi : os[i]? = some o := by simpa using hio
        obtain ⟨r0, hr0⟩ : ∃ r0, r0 ∈ tailsOf i es := by
          cases ht : tailsOf i es with
          | nil => rw [ht] at hne; cases hne
          | cons r l => exact ⟨r, by simp⟩
        have hst : astep P E os.toArray Q o (fun σ => ∀ r, r ∈ tailsOf i es → aops P E os.toArray Q (pickO os r) σ) σ :=
          astep_conj (S := fun r => r ∈ tailsOf i es) hp ⟨r0, hr0⟩ fun r hr => by
            have := h _ (mem_tailsOf hr)
            simp only [pickO, List.filterMap_cons, hoi] at this
            exact this
        exact astep_sound hio hst hs fun σ' a' w' hk hs' => wpAny_of_cover f _ _ σ' a' w' hcov hk hs'

/-- No operation of the tail is ready before the gate's. -/
def gateB (md : Region.Mode) (ops : Array Oper) (n : Nat) : Bool :=
  n == 0 || (Region.sinkB md ops (n - 1) && (List.range ops.size).all fun t => decide (t < n) || (List.range t).any fun u => decide (n - 1 ≤ u) && Region.waitsFor md ops t u)
theorem gate_all {md : Region.Mode} {ops : Array Oper} {n : Nat} {listed : Array Bool} (hn : n < ops.size) (hs : Region.sinkB md ops n = true) (inv : HeadInv md ops (n + 1) listed) (hl : listed.getD n false = true) :
    ∀ (d i : Nat), n - i = d → i ≤ n → listed.getD i false = true := by
  intro d
  induction d using Nat.strongRecOn with
  | _ d ih =>
    intro i hd hi
    by_cases hin : i = n
    · subst hin; exact hl
    · have h1 := List.all_eq_true.1 hs i (List.mem_range.2 (by omega))
      obtain ⟨j, hj, hj2⟩ := List.any_eq_true.1 h1
      simp only [Bool.and_eq_true, decide_eq_true_eq] at hj2
      obtain ⟨oj, hoj, e, he, hb, hon⟩ := Region.waitsFor_spec hj2.2
      have hjle : j ≤ n := by have := List.mem_range.1 hj; omega
      have hlj := ih (n - j) (by omega) j rfl hjle
      have := inv.closed j oj hoj hlj e he hb
      rw [hon] at this
      exact this
theorem tail_waits2 {md : Region.Mode} {ops : Array Oper} {n : Nat} {listed : Array Bool} (hg : gateB md ops n = true) (hn : n ≤ ops.size) (inv : HeadInv md ops n listed) {i : Nat} (hi : i < n) (hun : listed.getD i true = false) :
    ∀ (t : Nat), n ≤ t → t ∉ Region.ready md ops listed := by
  intro t ht hr
  obtain ⟨hutt, ot, hot, hall⟩ := mem_ready.1 hr
  have htlt : t < ops.size := (Array.getElem?_eq_some_iff.1 hot).1
  unfold gateB at hg
  simp only [Bool.or_eq_true, beq_iff_eq, Bool.and_eq_true] at hg
  rcases hg with h0 | ⟨hs, hw⟩
  · omega
  · have h1 := List.all_eq_true.1 hw t (List.mem_range.2 htlt)
    simp only [Bool.or_eq_true, decide_eq_true_eq] at h1
    rcases h1 with h1 | h1
    · omega
    · obtain ⟨u, hu, hu2⟩ := List.any_eq_true.1 h1
      simp only [Bool.and_eq_true, decide_eq_true_eq] at hu2
      obtain ⟨o', ho', e, he, hb, hon⟩ := Region.waitsFor_spec hu2.2
      have : o' = ot := Option.some.inj (ho'.symm.trans hot)
      subst this
      have h2 := hall e he hb
      rw [hon] at h2
      by_cases hun1 : u = n - 1
      · subst hun1
        obtain ⟨n', rfl⟩ : ∃ n', n = n' + 1 := ⟨n - 1, by omega⟩
        rw [Nat.add_sub_cancel] at h2 hs
        have := gate_all (by omega) hs inv h2 _ i rfl (by omega)
        rw [getD_both hun] at this
        cases this
      · have := inv.tail u (by omega) (by have := List.mem_range.1 hu; omega)
        rw [getD_both this] at h2
        cases h2

section
variable {P : Program} {E : Ent} {ops : Array Oper} {md : Region.Mode} {H : List Box}
theorem wpAnyLF_first2 {n i : Nat} {oi : Oper} {v : AV} {L : Array Bool → Tmps → Prop} (hi : ops[i]? = some oi)
    (hg : gateB md ops n = true) (hn : n ≤ ops.size) (hin : i < n)
    (hdone : ∀ listed T, L listed T → ∀ j ∈ Region.ready md ops listed, n ≤ j) :
    ∀ (f : Nat) (listed : Array Bool) (T : Tmps), HeadInv md ops n listed →
      (∀ j oj, ops[j]? = some oj → j ≠ i → listed.getD j true = false → (∀ e ∈ oj.after, Region.binds md e = true → e.on ≠ i) → oi.apart ops oj = true) →
      i ∈ Region.ready md ops listed → QY P E ops H oi v T →
      wpAnyLF P E md ops H n L f (listed.setIfInBounds i true) (fput T oi.dst v) → wpAnyLF P E md ops H n L (f + 1) listed T := by
  intro f
  induction f with
  | zero =>
    intro listed T inv _ hr hy HH
    have hun := (mem_ready.1 hr).1
    refine ⟨fun h => (by rw [h] at hr; cases hr), fun j hj => ?_⟩
    have hjn : j < n := by
      rcases Nat.lt_or_ge j n with h | h
      · exact h
      · exact absurd hj (tail_waits2 hg hn inv hin hun j h)
    refine ⟨hjn, ?_⟩
    by_cases hji : j = i
    · subst hji; exact hy.qOp hi HH
    · have := hdone _ _ HH j (ready_mono hj hji)
      omega
  | succ f ih =>
    intro listed T inv hfree hr hy HH
    have hun := (mem_ready.1 hr).1
    refine ⟨fun h => (by rw [h] at hr; cases hr), fun j hj => ?_⟩
    have hjn : j < n := by
      rcases Nat.lt_or_ge j n with h | h
      · exact h
      · exact absurd hj (tail_waits2 hg hn inv hin hun j h)
    refine ⟨hjn, ?_⟩
    by_cases hji : j = i
    · subst hji; exact hy.qOp hi HH
    · have h1 := (HH.2 j (ready_mono hj hji)).2
      obtain ⟨hjun, oj, hoj, hall⟩ := mem_ready.1 hj
      have hnot : ∀ e ∈ oj.after, Region.binds md e = true → e.on ≠ i := fun e he hb heq => by
        have h1 := hall e he hb
        rw [heq, getD_both hun] at h1
        cases h1
      have h2 := qOpF_put hoj (hfree j oj hoj hji hjun hnot) hy h1
      have hfree' : ∀ k ok, ops[k]? = some ok → k ≠ i → (listed.setIfInBounds j true).getD k true = false →
          (∀ e ∈ ok.after, Region.binds md e = true → e.on ≠ i) → oi.apart ops ok = true := fun k ok hk hki hun hno => by
        refine hfree k ok hk hki ?_ hno
        by_cases hjk : j = k
        · subst hjk; exact hjun
        · rw [getD_set_ne true hjk] at hun; exact hun
      refine qOpF_mono (fun a' h3 => ih (listed.setIfInBounds j true) a' (inv.set hj hjn) hfree' (ready_mono hr (Ne.symm hji)) h3.1 ?_) h2
      rw [Array.setIfInBounds_comm _ _ hji]
      exact h3.2

/-- Are i of the head free of those that may come later; is the tail covered? -/
def freeTo (md : Region.Mode) (ops : Array Oper) (n : Nat) (g : Nat) (es : List (List Nat)) : Nat → Nat → Array Bool → Bool
  | 0, k, listed => (Region.ready md ops listed).all (fun j => decide (n ≤ j)) && coverB md ops g listed es
  | f + 1, k, listed => (Region.ready md ops listed).contains k && (Region.free md ops listed k && freeTo md ops n g es f (k + 1) (listed.setIfInBounds k true))
def ordB (md : Region.Mode) (ops : Array Oper) (n : Nat) (es : List (List Nat)) : Bool :=
  decide (n ≤ ops.size) && (gateB md ops n && freeTo md ops n (ops.size - n) es n 0 (Array.replicate ops.size false))

theorem wpAnyLF_lex2 {n g : Nat} {es : List (List Nat)} {Lq : Tmps → Prop} (hg : gateB md ops n = true) (hn : n ≤ ops.size) :
    ∀ (l : List Oper) (k : Nat) (listed : Array Bool) (T : Tmps), (∀ j, j < l.length → l[j]? = ops[k + j]?) → k + l.length = n → HeadInv md ops n listed →
    freeTo md ops n g es l.length k listed = true → wpQ P E ops H Lq l T →
    wpAnyLF P E md ops H n (fun listed' T' => ((Region.ready md ops listed').all (fun j => decide (n ≤ j)) = true ∧ coverB md ops g listed' es = true) ∧ Lq T') l.length listed T
  | [], k, listed, T, _, hk, _, hB, h => ⟨by simpa [freeTo] using hB, h⟩
  | o :: l, k, listed, T, hl, hk, inv, hB, h => by
    have h0 : ops[k]? = some o := by simpa using (hl 0 (by simp)).symm
    simp only [List.length_cons, freeTo, Bool.and_eq_true] at hB
    obtain ⟨hr, hf, hB'⟩ := hB
    have hkn : k < n := by simp only [List.length_cons] at hk; omega
    have hr' : k ∈ Region.ready md ops listed := by simpa using hr
    obtain ⟨v, hy, hK⟩ := h
    exact wpAnyLF_first2 h0 hg hn hkn (fun listed' a' hL j hj => by simpa using List.all_eq_true.1 hL.1.1 j hj) l.length listed T inv (Region.free_spec h0 hf) hr' hy
      (wpAnyLF_lex2 hg hn l (k + 1) _ _ (fun j hj => by have := hl (j + 1) (by simp; omega); simpa [Nat.add_assoc, Nat.add_comm 1 j] using this) (by simp only [List.length_cons] at hk; omega) (inv.set hr' hkn) hB' hK)

theorem AWP.drawO {Q : AExit → ASt → Prop} {id : Nat} {os : List Oper} {l : List (Nat × AV)} (n : Nat) (es : List (List Nat)) (hm : P.follows .mixedOrders = true) (hB : ordB .any os.toArray n es = true)
    (h : qops P E os.toArray H (fun l => ∀ e, e ∈ es → aops P E os.toArray Q (pickO os e) ⟨l, H⟩) (os.take n) l) : AWP P E (.region id os.toArray true) Q ⟨l, H⟩ := fun a w ⟨β, hs⟩ => by
  simp only [ordB, Bool.and_eq_true, decide_eq_true_eq] at hB
  obtain ⟨hn, hg, hfr⟩ := hB
  have hn' : n ≤ os.length := by simpa using hn
  have htl : (os.take n).length = n := by simp; omega
  obtain ⟨i1, i2⟩ := still (w' := { w with drawn := w.drawn + 1 }) hs.inv (Wor.drawn w _) (fun _ _ _ => rfl)
  have hsf : SimF E (lk l) H β a { w with drawn := w.drawn + 1 } := ⟨hs.defers, hs.size, i1, hs.stp.trans i2, fun k => (hs.tmps k).stp i2⟩
  have inv0 : HeadInv .any os.toArray n (Array.replicate os.toArray.size false) :=
    ⟨by simp, fun j oj _ hl => (by rw [getD_replicate_false] at hl; cases hl), fun t _ ht => getD_in (by simpa using ht) (getD_replicate_false _ _)⟩
  have HH := wpAnyLF_lex2 (P := P) (E := E) (H := H) (md := .any) (g := os.toArray.size - n) (es := es) (Lq := fun T => ∃ l', T = lk l' ∧ ∀ e, e ∈ es → aops P E os.toArray Q (pickO os e) ⟨l', H⟩) hg hn (os.take n) 0 _ (lk l) (fun j hj => by
    have hj' : j < n := by rw [htl] at hj; exact hj
    simp [hj']) (by simpa using htl) inv0 (by rw [htl]; exact hfr) (wpQ_of_qops (fun l hq => ⟨l, rfl, hq⟩) _ _ h)
  refine wp_region_any hm ?_
  have := wpAny_of_headF (P := P) (E := E) (H := H) (md := .any) (Q' := lift E Q) (g := os.toArray.size - n) (fun listed T a' w' β' hs' hL => by
    obtain ⟨⟨_, hcov⟩, l', rfl, ha⟩ := hL
    exact wpAny_of_cover _ listed es ⟨l', H⟩ a' w' hcov ha ⟨β', ⟨hs'.defers, hs'.size, hs'.inv, hs'.stp, hs'.tmps⟩⟩) _ _ _ _ _ _ hsf HH
  rw [htl, show n + (os.toArray.size - n) = os.toArray.size by omega] at this
  exact this
theorem AWP.drawO_k {Q : AExit → ASt → Prop} {id : Nat} {os : List Oper} {l : List (Nat × AV)} (n : Nat) (es : List (List Nat)) (hm : P.follows .mixedOrders = true) (hB : ordB .any os.toArray n es = true)
    (h : ∀ Q' : AExit → ASt → Prop, (∀ e σ, Q e σ → Q' e σ) → qops P E os.toArray H (fun l => ∀ e, e ∈ es → aops P E os.toArray Q' (pickO os e) ⟨l, H⟩) (os.take n) l) :
    AWP P E (.region id os.toArray true) Q ⟨l, H⟩ := AWP.drawO n es hm hB (h Q fun _ _ h => h)
theorem ord_cons {α : Type} {p : α → Prop} {x : α} {l : List α} (h : p x) (h2 : ∀ y, y ∈ l → p y) : ∀ y, y ∈ (x :: l) → p y := fun y hy => by
  rcases List.mem_cons.1 hy with rfl | hy
  · exact h
  · exact h2 y hy
theorem ord_nil {α : Type} {p : α → Prop} : ∀ y, y ∈ ([] : List α) → p y := fun y hy => by cases hy
end
end Go.Proofs.YtjkdahpoalnjjaaDoor.VL

/- The value logic, part 10e: a region that draws its order, in which one call panics whatever is done before it. -/
set_option linter.unusedVariables false
set_option linter.unusedSimpArgs false
namespace Go.Proofs.YtjkdahpoalnjjaaDoor.VL
open Go Go.RowKit Go.Lib

/-- What an operation waits for. -/
def bnd (o : Oper) : List Nat := (o.after.toList.filter fun e => Region.binds .any e).map (·.on)
def wrs (ops : Array Oper) (j : Nat) (k : Nat) : Bool := match (ops[j]?).bind (·.dst) with
  | some d => d == k
  | none => false
def sepB (ops : Array Oper) : List Nat → Bool
  | [] => true
  | i :: r => (match ops[i]? with
    | none => false
    | some o => (i :: r).all fun j => (o.looksAt ops).all fun t => !wrs ops j t) && ((r.all fun j => match (ops[i]?).bind (·.dst) with
      | some d => !wrs ops j d
      | none => true) && sepB ops r)
/-- Operation p waits for none but those of B, these for none but those of B ahead of them; all others wait for p, or for what waits for it; B writes none of the slots ks. -/
def panB (ops : Array Oper) (p : Nat) (B ks : List Nat) : Bool :=
  decide (p < ops.size) && (!B.contains p && (sepB ops B &&
  ((p :: B).all (fun i => match ops[i]? with
    | none => false
    | some o => (bnd o).all (fun e => B.contains e && decide (e < i)) && B.all fun j => (o.looksAt ops).all fun t => !wrs ops j t || (bnd o).contains j) &&
  ((List.range ops.size).all (fun i => B.contains i || (i == p || match ops[i]? with
    | none => true
    | some o => (bnd o).any fun e => !B.contains e)) &&
  ks.all fun k => B.all fun j => !wrs ops j k))))

section
variable {P : Program} {E : Ent} {ops : Array Oper} {H : List Box}

theorem wrs_iff {j k : Nat} : wrs ops j k = true ↔ ∃ o, ops[j]? = some o ∧ o.dst = some k := by
  unfold wrs
  cases ho : ops[j]? with
  | none => simp
  | some o =>
    cases hd : o.dst with
    | none => simp [hd]
    | some d => simp [hd]
theorem fput_dst {T : Tmps} {o : Option Tmp} {v : AV} {k : Nat} (h : o ≠ some k) : fput T o v k = T k := by
  cases o with
  | none => rfl
  | some d =>
    have : d ≠ k := fun e => h (by rw [e])
    simp [fput, this]

/-- All results, once each of B is done. -/
theorem pan_run {Q : Tmps → Prop} : ∀ (B : List Nat) (T : Tmps), sepB ops B = true → wpQ P E ops H Q (pickO ops.toList B) T →
    ∃ Ts, Q Ts ∧ (∀ i ∈ B, ∃ o r, ops[i]? = some o ∧ QY P E ops H o r Ts ∧ ∀ d, o.dst = some d → Ts d = r) ∧ ∀ k, (∀ i ∈ B, wrs ops i k = false) → Ts k = T k
  | [], T, _, h => ⟨T, h, by simp, fun _ _ => rfl⟩
  | i :: r, T, hs, h => by
    unfold sepB at hs
    rw [Bool.and_eq_true, Bool.and_eq_true] at hs
    obtain ⟨h1, h2, h3⟩ := hs
    cases ho : ops[i]? with
    | none => rw [ho] at h1; cases h1
    | some o =>
      rw [ho] at h1 h2
      dsimp only at h1
      have hp : pickO ops.toList (i :: r) = o :: pickO ops.toList r := by
        rw [pickO, List.filterMap_cons, Array.getElem?_toList, ho]; rfl
      rw [hp] at h
      obtain ⟨v, hy, h⟩ := h
      obtain ⟨Ts, g1, g2, g3⟩ := pan_run r _ h3 h
      have hlook : ∀ t ∈ o.looksAt ops, ∀ j ∈ i :: r, wrs ops j t = false := fun t ht j hj => by
        have := List.all_eq_true.1 (List.all_eq_true.1 h1 j hj) t ht
        simpa using this
      have hput : ∀ k, o.dst ≠ some k → (∀ j ∈ r, wrs ops j k = false) → Ts k = T k := fun k hk hj => by rw [g3 k hj, fput_dst hk]
      have hdk : ∀ k, wrs ops i k = false → o.dst ≠ some k := fun k hk e => by
        have : wrs ops i k = true := wrs_iff.2 ⟨o, ho, e⟩
        rw [hk] at this; cases this
      refine ⟨Ts, g1, fun j hj => ?_, fun k hk => hput k (hdk k (hk i (by simp))) fun j hj => hk j (by simp [hj])⟩
      rcases List.mem_cons.1 hj with rfl | hj
      · refine ⟨o, v, ho, hy.congr fun t ht => hput t (hdk t (hlook t ht j (by simp))) fun q hq => hlook t ht q (by simp [hq]), fun d hd => ?_⟩
        have hr : ∀ q ∈ r, wrs ops q d = false := fun q hq => by
          have h2 : (r.all fun j => match o.dst with | some d => !wrs ops j d | none => true) = true := h2
          rw [hd] at h2
          simpa using List.all_eq_true.1 h2 q hq
        rw [g3 d hr, hd]
        simp [fput]
      · exact g2 j hj

theorem countP_flip {α : Type} [DecidableEq α] {f g : α → Bool} {i : α} (hf : f i = true) (hg : g i = false) (hj : ∀ j, j ≠ i → g j = f j) : ∀ (l : List α), l.Nodup → i ∈ l → l.countP g + 1 = l.countP f
  | [], _, h => by cases h
  | x :: l, hn, h => by
    rw [List.nodup_cons] at hn
    by_cases hx : x = i
    · subst hx
      rw [List.countP_cons_of_pos hf, List.countP_cons_of_neg (by simp [hg])]
      have : l.countP g = l.countP f := List.countP_congr fun y hy => by rw [hj y fun e => hn.1 (e ▸ hy)]
      omega
    · rcases List.mem_cons.1 h with h | h
      · exact absurd h.symm hx
      · have ih := countP_flip hf hg hj l hn.2 h
        rw [List.countP_cons, List.countP_cons, hj x hx]
        omega

/-- The call panics, and what is left behind is as l' and Hp say. -/
def pan1 (P : Program) (E : Ent) (H : List Box) (Q : AExit → ASt → Prop) (o : Oper) (l' : List (Nat × AV)) (A : Operand → AV) : Prop :=
  match o.op with
  | .call { callee := .value f, args, .. } =>
    match A f with
    | .fn fid caps => ∃ r Hp, acall P E.base fid (args.toList.map (fun x => unlit (A x)) ++ caps) H (fun out H' => out = .pan r ∧ H' = Hp) ∧ Q (.panic r) ⟨l', Hp⟩
    | _ => False
  | _ => False

theorem pan1_congr {Q : AExit → ASt → Prop} {o : Oper} {l' : List (Nat × AV)} {T T' : Tmps} (h : pan1 P E H Q o l' (feval T)) (hc : ∀ t ∈ o.looksAt ops, T' t = T t) : pan1 P E H Q o l' (feval T') := by
  have hop : ∀ x ∈ o.op.operands, feval T' x = feval T x := fun x hx => by
    cases x with
    | tmp t => exact hc t (by simp only [Oper.looksAt, List.mem_append, List.mem_filterMap]; exact .inl ⟨.tmp t, by simpa using hx, rfl⟩)
    | _ => rfl
  unfold pan1 at h ⊢
  split at h
  · rename_i f args ts ho
    rw [hop f (by simp [ho, Op.operands, Call.operands])]
    have : args.toList.map (fun x => unlit (feval T' x)) = args.toList.map (fun x => unlit (feval T x)) := List.map_congr_left fun x hx => congrArg unlit (hop x (by simp [ho, Op.operands, Call.operands]; exact .inr (by simpa using hx)))
    rw [this]
    exact h
  · exact h.elim

theorem pan_op {Q : AExit → ASt → Prop} {p : Nat} {o : Oper} {l' : List (Nat × AV)} {T : Tmps} {β : Pl} {a : Act} {w : World} {K' : Act → World → Prop} (hs : SimF E T H β a w) (ho : ops[p]? = some o) (hg : o.guard = none)
    (h : pan1 P E H Q o l' (feval T)) (hl : ∀ k, lk l' k = .dead ∨ lk l' k = T k) : wpOp P ops (lift E Q) p K' a w := by
  unfold wpOp
  simp only [ho]
  have hw : Region.wanted o (yielded ops a.tmps) = true := by unfold Region.wanted; rw [hg]
  rw [if_pos hw]
  left
  unfold Oper.wp
  unfold pan1 at h
  split at h
  · rename_i f args ts hop
    split at h
    · rename_i fid caps hf
      obtain ⟨r, Hp, hc, hq⟩ := h
      have hfr := hs.eval f
      rw [hf] at hfr
      generalize hv : a.eval f = fv at hfr
      cases hfr with
      | fn _ _ vs hlen hr =>
        refine call_upon hop hv (hc w β _ hs.inv ⟨by simp [hlen], fun i c x h1 h2 => ?_⟩) ?_ ?_ ?_
        · by_cases hi : i < args.size
          · rw [List.getElem?_append_left (by simpa using hi)] at h1
            rw [Array.getElem?_append_left (by simpa using hi)] at h2
            simp only [List.getElem?_map, Array.getElem?_toList, Array.getElem?_eq_getElem hi, Option.map_some, Option.some.injEq] at h1
            simp only [Array.getElem?_map, Array.getElem?_eq_getElem hi, Option.map_some, Option.some.injEq] at h2
            subst h1; subst h2
            exact unlit_rep (hs.eval _)
          · rw [List.getElem?_append_right (by simp; omega)] at h1
            rw [Array.getElem?_append_right (by simp; omega)] at h2
            simp only [List.length_map, Array.length_toList] at h1
            simp only [Array.size_map] at h2
            exact hr _ c x h1 h2
        · rintro v w' ⟨out, H', β', ⟨rfl, rfl⟩, k2, k3, k4⟩
          exact k2.elim
        · rintro c w' ⟨out, H', β', ⟨rfl, rfl⟩, k2, k3, k4⟩
          obtain ⟨v, e1, e2⟩ := k2
          refine ⟨_, r, v, β', hq, e1, ⟨hs.defers, hs.size, k3, hs.stp.trans k4, fun k => ?_⟩, e2⟩
          rcases hl k with h | h
          · rw [h]; exact .dead _
          · rw [h]; exact (hs.tmps k).stp k4
        · rintro w' ⟨out, H', β', ⟨rfl, rfl⟩, k2, k3, k4⟩
          exact k2.elim
    · exact h.elim
  · exact h.elim

theorem mem_bnd {o : Oper} {x : Nat} : x ∈ bnd o ↔ ∃ e ∈ o.after, Region.binds .any e = true ∧ e.on = x := by
  simp only [bnd, List.mem_map, List.mem_filter, Array.mem_toList_iff]
  constructor
  · rintro ⟨e, ⟨h1, h2⟩, h3⟩; exact ⟨e, h1, h2, h3⟩
  · rintro ⟨e, h1, h2, h3⟩; exact ⟨e, ⟨h1, h2⟩, h3⟩

theorem pan_any {Q : AExit → ASt → Prop} {p : Nat} {po : Oper} {B : List Nat} {l' : List (Nat × AV)} {T0 Ts : Tmps} (hB : panB ops p B (l'.map (·.1)) = true) (hpo : ops[p]? = some po) (hg : po.guard = none)
    (hv : ∀ i ∈ B, ∃ o r, ops[i]? = some o ∧ QY P E ops H o r Ts ∧ ∀ d, o.dst = some d → Ts d = r) (h0 : ∀ k, (∀ i ∈ B, wrs ops i k = false) → Ts k = T0 k)
    (hpan : pan1 P E H Q po l' (feval Ts)) (hl : ∀ k, lk l' k = .dead ∨ (lk l' k = T0 k ∧ ∀ i ∈ B, wrs ops i k = false)) :
    ∀ (f : Nat) (listed : Array Bool) (T : Tmps) (β : Pl) (a : Act) (w : World), SimF E T H β a w → listed.size = ops.size → (∀ i, listed.getD i false = true → i ∈ B) →
      (∀ j ∈ B, listed.getD j false = true → ∀ d, wrs ops j d = true → T d = Ts d) → (∀ k, (∀ j ∈ B, listed.getD j false = true → wrs ops j k = false) → T k = T0 k) →
      (List.range ops.size).countP (fun i => !listed.getD i false) ≤ f → wpAny P .any ops (lift E Q) f listed a w := by
  unfold panB at hB
  simp only [Bool.and_eq_true, decide_eq_true_eq] at hB
  obtain ⟨hps, hpB, _, hC, hO, hK⟩ := hB
  have hpB' : p ∉ B := by simpa using hpB
  have hC' : ∀ i ∈ p :: B, ∃ o, ops[i]? = some o ∧ (∀ e ∈ bnd o, e ∈ B ∧ e < i) ∧ ∀ j ∈ B, ∀ t ∈ o.looksAt ops, wrs ops j t = true → j ∈ bnd o := fun i hi => by
    have h := List.all_eq_true.1 hC i hi
    cases ho : ops[i]? with
    | none => rw [ho] at h; cases h
    | some o =>
      rw [ho] at h
      simp only [Bool.and_eq_true, List.all_eq_true, Bool.or_eq_true, List.contains_iff_mem, decide_eq_true_eq, Bool.not_eq_true'] at h
      refine ⟨o, rfl, h.1, fun j hj t ht hw => ?_⟩
      rcases h.2 j hj t ht with h2 | h2
      · rw [h2] at hw; cases hw
      · exact h2
  have hO' : ∀ i o, ops[i]? = some o → i ∉ B → i ≠ p → ∃ e ∈ bnd o, e ∉ B := fun i o ho hi hp => by
    have h := List.all_eq_true.1 hO i (List.mem_range.2 (Array.getElem?_eq_some_iff.1 ho).1)
    rw [ho] at h
    simp only [Bool.or_eq_true, List.contains_iff_mem, beq_iff_eq, List.any_eq_true, Bool.not_eq_true'] at h
    rcases h with h | h | ⟨e, h1, h2⟩
    · exact absurd h hi
    · exact absurd h hp
    · exact ⟨e, h1, fun hm => by rw [List.contains_iff_mem.2 hm] at h2; cases h2⟩
  -- where p isn't done, something may be done
  have hready : ∀ (listed : Array Bool), listed.size = ops.size → ∀ (n i : Nat), i < n → i ∈ p :: B → listed.getD i false = false → Region.ready .any ops listed ≠ [] := fun listed hsz n => by
    induction n with
    | zero => intro i hi; omega
    | succ n ih =>
      intro i hi hm hun hr
      obtain ⟨o, ho, h1, _⟩ := hC' i hm
      have hil := (Array.getElem?_eq_some_iff.1 ho).1
      by_cases hall : ∀ e ∈ bnd o, listed.getD e false = true
      · have : i ∈ Region.ready .any ops listed := mem_ready.2 ⟨getD_in (by omega) hun, o, ho, fun e he hb => hall _ (mem_bnd.2 ⟨e, he, hb, rfl⟩)⟩
        rw [hr] at this
        cases this
      · obtain ⟨e, he, hne⟩ : ∃ e, e ∈ bnd o ∧ ¬ listed.getD e false = true := by
          refine Classical.byContradiction fun hc => hall fun e he => Classical.byContradiction fun hn => hc ⟨e, he, hn⟩
        obtain ⟨q1, q2⟩ := h1 e he
        exact ih e (by omega) (List.mem_cons_of_mem _ q1) (by simpa using hne) hr
  intro f
  induction f with
  | zero =>
    intro listed T β a w hs hsz hsub h1 h2 hcnt
    exfalso
    have : 0 < (List.range ops.size).countP (fun i => !listed.getD i false) := List.countP_pos_iff.2 ⟨p, List.mem_range.2 hps, by
      cases hh : listed.getD p false with
      | false => rfl
      | true => exact absurd (hsub p hh) hpB'⟩
    omega
  | succ f ih =>
    intro listed T β a w hs hsz hsub h1 h2 hcnt
    have hpun : listed.getD p false = false := by
      cases hh : listed.getD p false with
      | false => rfl
      | true => exact absurd (hsub p hh) hpB'
    refine ⟨fun h => absurd h (hready listed hsz (p + 1) p (by omega) (by simp) hpun), fun i hi => ?_⟩
    obtain ⟨hun, o, ho, hall⟩ := mem_ready.1 hi
    have hun' := getD_both hun
    by_cases hm : i ∈ p :: B
    · obtain ⟨o', ho', g1, g2⟩ := hC' i hm
      rw [ho] at ho'
      obtain rfl := Option.some.inj ho'
      have hagree : ∀ t ∈ o.looksAt ops, T t = Ts t := fun t ht => by
        by_cases hj : ∃ j ∈ B, wrs ops j t = true
        · obtain ⟨j, hjB, hjw⟩ := hj
          obtain ⟨e, e1, e2, e3⟩ := mem_bnd.1 (g2 j hjB t ht hjw)
          exact h1 j hjB (e3 ▸ hall e e1 e2) t hjw
        · have hno : ∀ j ∈ B, wrs ops j t = false := fun j hjB => by
            cases hh : wrs ops j t with
            | false => rfl
            | true => exact absurd ⟨j, hjB, hh⟩ hj
          rw [h2 t fun j hjB _ => hno j hjB, h0 t hno]
      rcases List.mem_cons.1 hm with rfl | hiB
      · rw [hpo] at ho
        obtain rfl := Option.some.inj ho
        refine pan_op hs hpo hg (pan1_congr hpan hagree) fun k => ?_
        rcases hl k with h | ⟨h, hk⟩
        · exact .inl h
        · exact .inr (by rw [h, h2 k fun j hj _ => hk j hj])
      · obtain ⟨o', r, ho', hy, hd⟩ := hv i hiB
        rw [ho] at ho'
        obtain rfl := Option.some.inj ho'
        have hil := (Array.getElem?_eq_some_iff.1 ho).1
        have hself : (listed.setIfInBounds i true).getD i false = true := by simp [hsz, hil]
        refine wpOp_of_F (K := fun T' => T' = fput T o.dst r) hs (fun T' a' w' β' hs' e => ?_) ((hy.congr hagree).qOp ho rfl)
        subst e
        refine ih (listed.setIfInBounds i true) _ β' a' w' hs' (by simpa using hsz) (fun j hj => ?_) (fun j hj hjl d hjd => ?_) (fun k hk => ?_) ?_
        · by_cases hji : j = i
          · subst hji; exact hiB
          · rw [getD_set_ne false (Ne.symm hji)] at hj
            exact hsub j hj
        · by_cases hod : o.dst = some d
          · rw [hod, hd d hod]; simp [fput]
          · rw [fput_dst hod]
            have hji : j ≠ i := fun e => by
              subst e
              obtain ⟨o', ho', e'⟩ := wrs_iff.1 hjd
              rw [ho] at ho'
              obtain rfl := Option.some.inj ho'
              exact hod e'
            rw [getD_set_ne false (Ne.symm hji)] at hjl
            exact h1 j hj hjl d hjd
        · have hod : o.dst ≠ some k := fun e => by
            have := hk i hiB hself
            rw [wrs_iff.2 ⟨o, ho, e⟩] at this
            cases this
          rw [fput_dst hod]
          refine h2 k fun j hj hjl => hk j hj ?_
          by_cases hji : j = i
          · subst hji; exact hself
          · rw [getD_set_ne false (Ne.symm hji)]; exact hjl
        · have := countP_flip (f := fun i => !listed.getD i false) (g := fun j => !(listed.setIfInBounds i true).getD j false) (i := i) (by simpa using hun') (by simpa using hself) (fun j hj => by rw [getD_set_ne false (Ne.symm hj)]) (List.range ops.size) List.nodup_range (List.mem_range.2 hil)
          omega
    · exfalso
      rw [List.mem_cons, not_or] at hm
      obtain ⟨e, he, hne⟩ := hO' i o ho hm.2 hm.1
      obtain ⟨e', e1, e2, e3⟩ := mem_bnd.1 he
      exact hne (hsub e (e3 ▸ hall e' e1 e2))

/-- A region in which call p panics, whatever of B is done before it. -/
theorem AWP.drawP {Q : AExit → ASt → Prop} {id : Nat} {os : List Oper} {l : List (Nat × AV)} (p : Nat) (B : List Nat) (l' : List (Nat × AV)) {po : Oper} (hm : P.follows .mixedOrders = true) (hB : panB os.toArray p B (l'.map (·.1)) = true)
    (hpo : os[p]? = some po) (hg : po.guard = none) (hk : Keeps l l') (h : qops P E os.toArray H (fun l1 => pan1 P E H Q po l' (aeval l1)) (pickO os B) l) : AWP P E (.region id os.toArray true) Q ⟨l, H⟩ := fun a w ⟨β, hs⟩ => by
  obtain ⟨i1, i2⟩ := still (w' := { w with drawn := w.drawn + 1 }) hs.inv (Wor.drawn w _) (fun _ _ _ => rfl)
  have hsf : SimF E (lk l) H β a { w with drawn := w.drawn + 1 } := ⟨hs.defers, hs.size, i1, hs.stp.trans i2, fun k => (hs.tmps k).stp i2⟩
  have hB' := hB
  unfold panB at hB'
  simp only [Bool.and_eq_true, decide_eq_true_eq] at hB'
  obtain ⟨_, _, hsep, _, _, hK⟩ := hB'
  have hq := wpQ_of_qops (P := P) (E := E) (ops := os.toArray) (H := H) (Q' := fun T => pan1 P E H Q po l' (feval T)) (fun l1 h1 => by rw [feval_lk]; exact h1) _ _ h
  obtain ⟨Ts, g1, g2, g3⟩ := pan_run B (lk l) hsep hq
  refine wp_region_any hm ?_
  refine pan_any hB (by simpa using hpo) hg g2 g3 g1 (fun k => ?_) _ _ (lk l) β a _ hsf (by simp) (fun i hi => ?_) (fun j _ hj => ?_) (fun k _ => rfl) ?_
  · by_cases hkm : k ∈ l'.map (·.1)
    · rcases lk_keep hk k with h | h
      · exact .inr ⟨h, fun i hi => by simpa using List.all_eq_true.1 (List.all_eq_true.1 hK k hkm) i hi⟩
      · exact .inl h
    · left
      clear hB hk hK h hpo g1 hq
      induction l' with
      | nil => rfl
      | cons q r ih =>
        simp only [List.map_cons, List.mem_cons, not_or] at hkm
        obtain ⟨q1, q2⟩ := q
        rw [lk_cons, if_neg (fun e => hkm.1 e.symm)]
        exact ih hkm.2
  · rw [getD_replicate_false] at hi; cases hi
  · rw [getD_replicate_false] at hj; cases hj
  · refine Nat.le_trans List.countP_le_length ?_
    simp
end

end Go.Proofs.YtjkdahpoalnjjaaDoor.VL

/- The value logic, part 12: what a walk rewrites by. -/
set_option linter.unusedVariables false
set_option linter.unusedSimpArgs false
namespace Go.Proofs.YtjkdahpoalnjjaaDoor.VL
open Go Go.RowKit Go.Lib

attribute [go_sem] aggEq aggEqB eqVals aclear aops aone aop aopU unlit isConst constParts relit isBytes litConv aeval lk put cst zcell dstOk ayield aflag undef withH nilOk alen amin amax abuiltin aextract afieldAddr afield aindexAddr aindex aload aloadAt astoreAt newBox abuild abuildSlice parts afill fieldPlaces splice chunk aslice abnd aconv aconvH asrc aappend aappend' aappendT aappendZ acap noBox shareB acopy amake acaps live AV.cells AV.one qops qone number
attribute [go_sem] glb gvals amkI plainVals atypeA aisNil plainAV eqlNil
attribute [go_sem] List.size_toArray cond_true cond_false false_and and_false Nat.lt_irrefl List.set_nil
attribute [go_sem] aslice3 selfOk selfBox List.tail_cons unbs isBs aappendB abslice aunsafeString
attribute [go_sem] nilIf isSl isInt branch_tt branch_ff branch_tf branch_ft askip qskip
attribute [go_sem] abin aint astr aun apick Value.oneCell' notInt ares1 aresL ares

theorem AWP.region_k {P : Program} {E : Ent} {Q : AExit → ASt → Prop} {σ : ASt} {id : Nat} {l : List Oper} (h : ∀ Q' : AExit → ASt → Prop, (∀ e σ, Q e σ → Q' e σ) → aops P E l.toArray Q' l σ) : AWP P E (.region id l.toArray false) Q σ :=
  AWP.region (by simpa using h Q fun _ _ h => h)
theorem AWP.draw_k {P : Program} {E : Ent} {Q : AExit → ASt → Prop} {id : Nat} {os : List Oper} {l : List (Nat × AV)} {H : List Box} (hm : P.follows .mixedOrders = true) (hB : Region.lexB .any os.toArray = true)
    (h : ∀ K : List (Nat × AV) → Prop, (∀ l, Q .normal ⟨l, H⟩ → K l) → qops P E os.toArray H K os l) : AWP P E (.region id os.toArray true) Q ⟨l, H⟩ :=
  AWP.draw hm hB (by simpa using h _ fun _ h => h)

attribute [go_sem] beq_self_eq_true true_and and_true Option.bind Option.map decide_true decide_false decide_eq_true_eq not_true not_false_eq_true Bool.false_eq_true false_implies implies_true true_implies forall_const Option.some.injEq Nat.add_zero Nat.zero_add ne_eq Bool.not_true Bool.not_false Bool.not_eq_true List.map_cons List.map_nil List.append_nil List.all_cons List.all_nil Bool.and_true Bool.and_self Option.isSome_some Int.toNat_natCast List.take_succ_cons List.take_zero List.drop_succ_cons List.drop_zero exists_eq_left' Nat.mul_one Nat.one_mul Nat.zero_mul Int.zero_add Int.add_zero Int.tdiv_eq_ediv_of_nonneg Int.tmod_eq_emod_of_nonneg Int.fdiv_eq_ediv_of_nonneg Nat.min_eq_left IntKind.bits IntKind.signed gt_iff_lt false_or or_false or_true true_or List.set_cons_zero Option.getD Int.cast_ofNat_Int List.take_length

/-! ### Operation by operation -/
theorem aops.step {P : Program} {E : Ent} {ops : Array Oper} {Q : AExit → ASt → Prop} {o : Oper} {rest : List Oper} {σ : ASt}
    (h : ∀ T : ASt → Prop, (∀ σ, aops P E ops Q rest σ → T σ) → match o.guard with
      | none => aone P E Q o T σ
      | some (j, want) => match ayield ops σ.tmps j with
        | some (some t) => Branch t want σ (aone P E Q o T) (askip E o T)
        | some none => askip E o T σ
        | none => False) : aops P E ops Q (o :: rest) σ := by
  simp only [aops]
  exact h _ fun _ h => h
theorem aops.nil {P : Program} {E : Ent} {ops : Array Oper} {Q : AExit → ASt → Prop} {σ : ASt} (h : Q .normal σ) : aops P E ops Q [] σ := h
theorem qops.step {P : Program} {E : Ent} {ops : Array Oper} {H : List Box} {Q : List (Nat × AV) → Prop} {o : Oper} {rest : List Oper} {l : List (Nat × AV)}
    (h : ∀ T : List (Nat × AV) → Prop, (∀ l, qops P E ops H Q rest l → T l) → match o.guard with
      | none => qone P E H o T l
      | some (j, want) => match ayield ops l j with
        | some (some t) => Branch t want l (qone P E H o T) (qskip E o T)
        | some none => qskip E o T l
        | none => False) : qops P E ops H Q (o :: rest) l := by
  simp only [qops]
  exact h _ fun _ h => h
theorem qops.nil {P : Program} {E : Ent} {ops : Array Oper} {H : List Box} {Q : List (Nat × AV) → Prop} {l : List (Nat × AV)} (h : Q l) : qops P E ops H Q [] l := h

/-! ### Numbers -/
@[go_sem] theorem wi64 {x : Int} (h0 : -9223372036854775808 ≤ x) (h1 : x ≤ 9223372036854775807) : IntKind.i64.wrap x = x := by
  simp [IntKind.wrap, IntKind.bits, IntKind.signed]; omega
@[go_sem] theorem wu8 {x : Int} (h0 : 0 ≤ x) (h1 : x ≤ 255) : IntKind.u8.wrap x = x := by
  simp [IntKind.wrap, IntKind.bits, IntKind.signed]; omega
@[go_sem] theorem wu32 {x : Int} (h0 : 0 ≤ x) (h1 : x ≤ 4294967295) : IntKind.u32.wrap x = x := by
  simp [IntKind.wrap, IntKind.bits, IntKind.signed]; omega
@[go_sem] theorem wu64 {x : Int} (h0 : 0 ≤ x) (h1 : x ≤ 18446744073709551615) : IntKind.u64.wrap x = x := by
  simp [IntKind.wrap, IntKind.bits, IntKind.signed]; omega
theorem wi64_idem (x : Int) : IntKind.i64.wrap (IntKind.i64.wrap x) = IntKind.i64.wrap x := by
  simp [IntKind.wrap, IntKind.bits, IntKind.signed]; omega

theorem ofInt_toNat {n : Nat} {a : Int} (h0 : 0 ≤ a) (h1 : a < (2 ^ n : Nat)) : (BitVec.ofInt n a).toNat = a.toNat := by
  rw [BitVec.toNat_ofInt]
  congr 1
  exact Int.emod_eq_of_lt h0 h1
theorem ior_u64 {a b : Int} (ha : 0 ≤ a) (hb : 0 ≤ b) (ha' : a ≤ 18446744073709551615) (hb' : b ≤ 18446744073709551615) : ior .u64 a b = ((a.toNat ||| b.toNat : Nat) : Int) := by
  show IntKind.u64.wrap ((BitVec.ofInt 64 a ||| BitVec.ofInt 64 b).toNat : Int) = _
  have h := (BitVec.ofInt 64 a ||| BitVec.ofInt 64 b).isLt
  rw [wu64 (by omega) (by omega), BitVec.toNat_or, ofInt_toNat ha (by omega), ofInt_toNat hb (by omega)]
theorem iand_u64 {a b : Int} (ha : 0 ≤ a) (hb : 0 ≤ b) (ha' : a ≤ 18446744073709551615) (hb' : b ≤ 18446744073709551615) : iand .u64 a b = ((a.toNat &&& b.toNat : Nat) : Int) := by
  show IntKind.u64.wrap ((BitVec.ofInt 64 a &&& BitVec.ofInt 64 b).toNat : Int) = _
  have h := (BitVec.ofInt 64 a &&& BitVec.ofInt 64 b).isLt
  rw [wu64 (by omega) (by omega), BitVec.toNat_and, ofInt_toNat ha (by omega), ofInt_toNat hb (by omega)]
theorem ior_u8 {a b : Int} (ha : 0 ≤ a) (hb : 0 ≤ b) (ha' : a ≤ 255) (hb' : b ≤ 255) : ior .u8 a b = ((a.toNat ||| b.toNat : Nat) : Int) := by
  show IntKind.u8.wrap ((BitVec.ofInt 8 a ||| BitVec.ofInt 8 b).toNat : Int) = _
  have h := (BitVec.ofInt 8 a ||| BitVec.ofInt 8 b).isLt
  rw [wu8 (by omega) (by omega), BitVec.toNat_or, ofInt_toNat ha (by omega), ofInt_toNat hb (by omega)]
theorem iand_u8 {a b : Int} (ha : 0 ≤ a) (hb : 0 ≤ b) (ha' : a ≤ 255) (hb' : b ≤ 255) : iand .u8 a b = ((a.toNat &&& b.toNat : Nat) : Int) := by
  show IntKind.u8.wrap ((BitVec.ofInt 8 a &&& BitVec.ofInt 8 b).toNat : Int) = _
  have h := (BitVec.ofInt 8 a &&& BitVec.ofInt 8 b).isLt
  rw [wu8 (by omega) (by omega), BitVec.toNat_and, ofInt_toNat ha (by omega), ofInt_toNat hb (by omega)]
theorem iand_i64 {a b : Int} (ha : 0 ≤ a) (hb : 0 ≤ b) (ha' : a ≤ 9223372036854775807) (hb' : b ≤ 9223372036854775807) : iand .i64 a b = ((a.toNat &&& b.toNat : Nat) : Int) := by
  show IntKind.i64.wrap ((BitVec.ofInt 64 a &&& BitVec.ofInt 64 b).toNat : Int) = _
  have h := Nat.and_le_left (n := a.toNat) (m := b.toNat)
  have e : (BitVec.ofInt 64 a &&& BitVec.ofInt 64 b).toNat = a.toNat &&& b.toNat := by rw [BitVec.toNat_and, ofInt_toNat ha (by omega), ofInt_toNat hb (by omega)]
  rw [e, wi64 (by omega) (by omega)]
theorem ior_i64 {a b : Int} (ha : 0 ≤ a) (hb : 0 ≤ b) (ha' : a ≤ 9223372036854775807) (hb' : b ≤ 9223372036854775807) : ior .i64 a b = ((a.toNat ||| b.toNat : Nat) : Int) := by
  show IntKind.i64.wrap ((BitVec.ofInt 64 a ||| BitVec.ofInt 64 b).toNat : Int) = _
  have h : a.toNat ||| b.toNat < 2 ^ 63 := Nat.or_lt_two_pow (by omega) (by omega)
  have e : (BitVec.ofInt 64 a ||| BitVec.ofInt 64 b).toNat = a.toNat ||| b.toNat := by rw [BitVec.toNat_or, ofInt_toNat ha (by omega), ofInt_toNat hb (by omega)]
  rw [e, wi64 (by omega) (by omega)]

@[go_sem] theorem bytesG_length (bs : List UInt8) : (bytesG bs).length = bs.length := by simp [bytesG]
@[go_sem] theorem bytesG_get (bs : List UInt8) (i : Nat) : (bytesG bs)[i]? = (bs[i]?).map fun b => [AV.v (.int .u8 b.toNat)] := by simp [bytesG]
@[go_sem] theorem bytesG_take (bs : List UInt8) (i : Nat) : (bytesG bs).take i = bytesG (bs.take i) := by simp [bytesG, List.map_take]
@[go_sem] theorem bytesG_drop (bs : List UInt8) (i : Nat) : (bytesG bs).drop i = bytesG (bs.drop i) := by simp [bytesG, List.map_drop]
@[go_sem] theorem bytesOf_G (bs : List UInt8) : bytesOf (bytesG bs) = some bs := bytesOf_bytesG bs
/-- Cells of bytes. -/
def bytesC (bs : List UInt8) : List AV := bs.map fun b => .v (.int .u8 b.toNat)
@[go_sem] theorem flat_bytesG (bs : List UInt8) : flat (bytesG bs) = bytesC bs := by
  unfold flat bytesG bytesC
  induction bs with
  | nil => rfl
  | cons b r ih => simp only [List.map_cons, List.flatten_cons, ih]; rfl
@[go_sem] theorem bytesC_length (bs : List UInt8) : (bytesC bs).length = bs.length := by simp [bytesC]
@[go_sem] theorem bytesC_append (a b : List UInt8) : bytesC a ++ bytesC b = bytesC (a ++ b) := by simp [bytesC]
@[go_sem] theorem bytesC_drop (a : List UInt8) (n : Nat) : (bytesC a).drop n = bytesC (a.drop n) := by simp [bytesC, List.map_drop]
def zerosB (n : Nat) : List UInt8 := List.replicate n 0
@[go_sem] theorem zerosB_length (n : Nat) : (zerosB n).length = n := by simp [zerosB]
theorem bytesC_lt (bs : List UInt8) (j : Nat) (c : AV) (h : (bytesC bs)[j]? = some c) : Lt 0 c := by
  simp only [bytesC, List.getElem?_map] at h
  obtain ⟨b, _, rfl⟩ := Option.map_eq_some_iff.1 h
  exact .v _
@[go_sem] theorem flat_nil : flat ([] : List (List AV)) = [] := rfl
@[go_sem] theorem flat_cons (g : List AV) (r : List (List AV)) : flat (g :: r) = g ++ flat r := rfl
@[go_sem] theorem bytesC_snoc (a : List UInt8) (x : Int) (h0 : 0 ≤ x) (h1 : x ≤ 255) : bytesC a ++ [.v (.int .u8 x)] = bytesC (a ++ [UInt8.ofNat x.toNat]) := by
  have e : ((UInt8.ofNat x.toNat).toNat : Int) = x := by
    rw [UInt8.toNat_ofNat']
    omega
  simp only [bytesC, List.map_append, List.map_cons, List.map_nil, e]
theorem chunk_bytesC (bs : List UInt8) : ∀ n, n = bs.length → chunk 1 n (bytesC bs) = bytesG bs := by
  induction bs with
  | nil => intro n h; subst h; rfl
  | cons b r ih => intro n h; subst h; simp only [List.length_cons, chunk, bytesC, List.map_cons, List.take_succ_cons, List.take_zero, List.drop_succ_cons, List.drop_zero]; exact congrArg _ (ih r.length rfl)
@[go_sem] theorem strData (bs : List UInt8) : (⟨bs.toArray⟩ : ByteArray).data.toList = bs := rfl
@[go_sem] theorem strSize (bs : List UInt8) : (⟨bs.toArray⟩ : ByteArray).size = bs.length := by show bs.toArray.size = _; simp
theorem lt_bytes {n : Nat} (bs : List UInt8) : Lt n (.lst 1 (bytesG bs)) := .lst _ _ fun i j g c hi hj => by
  obtain ⟨b, _, rfl⟩ := bytes_get hi
  cases j with
  | zero => simp at hj; subst hj; exact .v _
  | succ j => simp at hj

@[go_sem] theorem ite_pos' {α : Sort _} {c : Prop} [Decidable c] {a b : α} (h : c) : (if c then a else b) = a := if_pos h
@[go_sem] theorem ite_neg' {α : Sort _} {c : Prop} [Decidable c] {a b : α} (h : ¬ c) : (if c then a else b) = b := if_neg h

theorem acall.det {P : Program} {base : Nat} {f : FuncId} {args : List AV} {H : List Box} {K : Out → List Box → Prop} {X : Out} {Y : List Box} (h : ASpec P f args H (fun o H' => o = X ∧ H' = Y)) (hK : K X Y) : acall P base f args H K :=
  h.use fun o H' ⟨e1, e2⟩ => by rw [e1, e2]; exact hK
theorem qcall.det {P : Program} {base : Nat} {f : FuncId} {args : List AV} {H : List Box} {K : AV → Prop} {r : AV} (h : ASpec P f args H (fun o H' => o = .ret r ∧ H' = H)) (hK : K r) :
    ∃ r, acall P base f args H (fun o H' => o = .ret r ∧ H' = H) ∧ K r := ⟨r, h base, hK⟩
theorem Fin.same {E : Ent} {r : AV} {K : AV → List Box → Prop} (h : K r E.H) : Fin E r E.H K := ⟨r, E.H, Shed.refl _ _ _, h⟩
theorem Fin.cut {E : Ent} {r : AV} {N : List Box} {K : AV → List Box → Prop} (hr : Lt 0 r) (h : K r E.H) : Fin E r (E.H ++ N) K := ⟨r, E.H, Shed.cut hr, h⟩
theorem Fin.own {E : Ent} {N : List Box} {i g n sz : Nat} {full : Bool} {bx : Box} {K : AV → List Box → Prop} (hb : N[i]? = some bx) (hg : bx.gen = g) (hc : ∀ (j : Nat) (c : AV), bx.cells[j]? = some c → Lt 0 c)
    (h : K (.sl E.H.length 0 0 n sz full) (E.H ++ [⟨bx.cells, bx.ro, 0, bx.grow⟩])) : Fin E (.sl (E.H.length + i) g 0 n sz full) (E.H ++ N) K :=
  ⟨_, _, Shed.own (b := E.H.length + i) (by rw [List.getElem?_append_right (by omega)]; simpa using hb) hg (by omega) hc, h⟩
theorem Fin.mono {E : Ent} {r : AV} {H : List Box} {K K' : AV → List Box → Prop} (h : Fin E r H K) (hK : ∀ r H, K r H → K' r H) : Fin E r H K' := let ⟨r', H', h1, h2⟩ := h; ⟨r', H', h1, hK _ _ h2⟩

/-! ### Boxes behind others -/
@[go_sem] theorem getH (H N : List Box) (i : Nat) : (H ++ N)[H.length + i]? = N[i]? := by rw [List.getElem?_append_right (by omega)]; congr 1; omega
@[go_sem] theorem getH0 (H N : List Box) : (H ++ N)[H.length]? = N[0]? := by rw [List.getElem?_append_right (Nat.le_refl _), Nat.sub_self]
@[go_sem] theorem setH (H N : List Box) (i : Nat) (b : Box) : (H ++ N).set (H.length + i) b = H ++ N.set i b := by rw [List.set_append_right _ _ (by omega)]; congr 2; omega
@[go_sem] theorem setH0 (H N : List Box) (b : Box) : (H ++ N).set H.length b = H ++ N.set 0 b := by rw [List.set_append_right _ _ (Nat.le_refl _), Nat.sub_self]
@[go_sem] theorem appH (H N M : List Box) : H ++ N ++ M = H ++ (N ++ M) := List.append_assoc _ _ _
@[go_sem] theorem lenH (H N : List Box) : (H ++ N).length = H.length + N.length := List.length_append
attribute [go_sem] List.cons_append List.nil_append List.length_cons List.length_nil List.set_cons_zero List.set_cons_succ List.getElem?_cons_zero List.getElem?_cons_succ List.getElem?_toArray List.getElem?_nil

end Go.Proofs.YtjkdahpoalnjjaaDoor.VL

/- The value logic, part 13: new rows that are only read from then on; rows handed on to be read. -/
set_option linter.unusedVariables false
set_option linter.unusedSimpArgs false
namespace Go.Proofs.YtjkdahpoalnjjaaDoor.VL
open Go Go.RowKit Go.Lib

/-- The new box of a slice is forgotten: the slice is only read from now on. -/
theorem Shed.froz {E : Ent} {N : List Box} {b g off n sz : Nat} {full : Bool} {bx : Box} (hb : (E.H ++ N)[b]? = some bx) (hge : E.H.length ≤ b) (hg : bx.gen = g) (hfit : off + n * sz ≤ bx.cells.length)
    (hlt : ∀ m, Lt m (.lst sz (chunk sz n (bx.cells.drop off)))) : Shed E (.sl b g off n sz full) (E.H ++ N) (.lst sz (chunk sz n (bx.cells.drop off))) E.H := fun w β v hI hs h => by
  obtain ⟨h1, h2⟩ := freeze_inv hI hb hfit
  have hbl : b < (E.H ++ N).length := (List.getElem?_eq_some_iff.1 hb).1
  have hv := rep_view (bx := { bx with ro := max bx.ro (off + n * sz) }) h1 (List.getElem?_set_self hbl) hg (Nat.le_max_right _ _) (h.stp h2)
  have hs' := hs.trans h2
  rw [List.set_append_right _ _ hge] at h1 hs' hv
  obtain ⟨g1, g2, g3⟩ := cut_inv h1 hs' (fun i bx hi j c hj => E.inv.ltCells hi hj) (Nat.le_refl _)
  exact ⟨β, g1, g2, g3 _ _ (hlt _) hv⟩

theorem ASpec.shed {P : Program} {f : FuncId} {args : List AV} {H : List Box} {r r' : AV} {H1 H2 : List Box} (h : ASpec P f args H (fun o H' => o = .ret r ∧ H' = H1)) (hs : ∀ E : Ent, E.H = H → Shed E r H1 r' H2) : ASpec P f args H (fun o H' => o = .ret r' ∧ H' = H2) := fun base =>
  fun w β vs hI hr => ((h base) w β vs hI hr).mono fun e w' ⟨out, H', β', hK, k2, k3, k4⟩ => by
    obtain ⟨rfl, rfl⟩ := hK
    cases e with
    | returned v =>
      obtain ⟨β'', g1, g2, g3⟩ := hs ⟨base, 0, w, H, β, hI, []⟩ rfl w' β' v k3 k4 k2
      exact ⟨.ret r', _, β'', ⟨rfl, rfl⟩, g3, g1, g2⟩
    | panicked c => exact k2.elim
    | outgrown => exact k2.elim

theorem Shed.ro {E : Ent} {H : List Box} {r : AV} {b m : Nat} {bx : Box} (hb : H[b]? = some bx) (hm : m ≤ bx.cells.length) : Shed E r H r (H.set b ⟨bx.cells, max bx.ro m, bx.gen, bx.grow⟩) := fun w β v hI hs h => by
  obtain ⟨h1, h2⟩ := freeze_inv hI hb hm
  exact ⟨β, h1, hs.trans h2, h.stp h2⟩

/-- Rows of cells; simp doesn't look behind the name. -/
def view (sz n : Nat) (cs : List AV) : List (List AV) := chunk sz n cs
section
variable {P : Program} {base : Nat} {f : FuncId} {post : List AV} {H : List Box} {K : Out → List Box → Prop}
theorem acall.fz0 {b g off n sz : Nat} {full : Bool} (h : match H[b]? with
      | some bx => (bx.gen = g ∧ off + n * sz ≤ bx.cells.length) ∧ acall P base f (.lst sz (view sz n (bx.cells.drop off)) :: post) (H.set b ⟨bx.cells, max bx.ro (off + n * sz), bx.gen, bx.grow⟩) K
      | none => False) : acall P base f (.sl b g off n sz full :: post) H K := by
  split at h
  · rename_i bx hb
    exact acall.freeze (pre := []) hb h.1.1 h.1.2 h.2
  · exact h.elim
theorem acall.fz1 {x : AV} {b g off n sz : Nat} {full : Bool} (h : match H[b]? with
      | some bx => (bx.gen = g ∧ off + n * sz ≤ bx.cells.length) ∧ acall P base f (x :: .lst sz (view sz n (bx.cells.drop off)) :: post) (H.set b ⟨bx.cells, max bx.ro (off + n * sz), bx.gen, bx.grow⟩) K
      | none => False) : acall P base f (x :: .sl b g off n sz full :: post) H K := by
  split at h
  · rename_i bx hb
    exact acall.freeze (pre := [x]) hb h.1.1 h.1.2 h.2
  · exact h.elim
theorem acall.em0 (h : acall P base f (.lst 1 (bytesG []) :: post) H K) : acall P base f (.emp :: post) H K := acall.empty (pre := []) 1 h
theorem acall.em1 {x : AV} (h : acall P base f (x :: .lst 1 (bytesG []) :: post) H K) : acall P base f (x :: .emp :: post) H K := acall.empty (pre := [x]) 1 h
variable {K1 : AV → Out → List Box → Prop} {K2 : AV → Prop}
theorem qcall.em0 (h : ∃ r, acall P base f (.lst 1 (bytesG []) :: post) H (K1 r) ∧ K2 r) : ∃ r, acall P base f (.emp :: post) H (K1 r) ∧ K2 r := let ⟨r, h1, h2⟩ := h; ⟨r, acall.em0 h1, h2⟩
theorem qcall.em1 {x : AV} (h : ∃ r, acall P base f (x :: .lst 1 (bytesG []) :: post) H (K1 r) ∧ K2 r) : ∃ r, acall P base f (x :: .emp :: post) H (K1 r) ∧ K2 r := let ⟨r, h1, h2⟩ := h; ⟨r, acall.em1 h1, h2⟩
end

@[go_sem] theorem strEq (a b : List UInt8) : ((⟨a.toArray⟩ : ByteArray) = ⟨b.toArray⟩) = (a = b) := by
  apply propext
  constructor
  · intro h
    have := congrArg (fun x : ByteArray => x.data.toList) h
    simpa using this
  · rintro rfl; rfl
theorem viewB (bs : List UInt8) (n : Nat) (h : n = bs.length) : view 1 n (bytesC bs) = bytesG bs := chunk_bytesC bs n h
theorem chunkB (bs : List UInt8) (n : Nat) (h : n = bs.length) : chunk 1 n (bytesC bs) = bytesG bs := chunk_bytesC bs n h

end Go.Proofs.YtjkdahpoalnjjaaDoor.VL

/- The value logic, part 15: arrays of bytes, rows of them. -/
set_option linter.unusedVariables false
set_option linter.unusedSimpArgs false
namespace Go.Proofs.YtjkdahpoalnjjaaDoor.VL
open Go Go.RowKit Go.Lib

@[go_sem] theorem bytesC_take (a : List UInt8) (n : Nat) : (bytesC a).take n = bytesC (a.take n) := by simp [bytesC, List.map_take]
@[go_sem] theorem bytesOfC_C (bs : List UInt8) : bytesOfC (bytesC bs) = some bs := by
  unfold bytesC
  induction bs with
  | nil => rfl
  | cons b r ih =>
    have := b.toNat_lt
    rw [List.map_cons, bytesOfC, if_pos (by omega), ih]
    simp
@[go_sem] theorem bytesC_all (bs : List UInt8) : (bytesC bs).all AV.one = true := by
  unfold bytesC
  induction bs with
  | nil => rfl
  | cons b r ih => rw [List.map_cons, List.all_cons, ih]; rfl
/-- Bytes put in others' place. -/
def spl (t : List UInt8) (o : Nat) (x : List UInt8) : List UInt8 := t.take o ++ (x ++ t.drop (o + x.length))
theorem spl_length (t x : List UInt8) (o : Nat) (h : o + x.length ≤ t.length) : (spl t o x).length = t.length := by
  simp [spl]; omega
@[go_sem] theorem splice_bytes (t x : List UInt8) (o : Nat) (h : o + x.length ≤ t.length) : splice (bytesC t) o (bytesC x) = bytesC (spl t o x) := by
  apply List.ext_getElem?
  intro j
  rw [splice_get _ _ _ _ (by simpa [bytesC] using h)]
  simp only [bytesC, List.length_map, List.getElem?_map, spl]
  by_cases h1 : j < o
  · rw [if_neg (by omega), List.getElem?_append_left (by simp; omega), List.getElem?_take_of_lt h1]
  · by_cases h2 : j < o + x.length
    · rw [if_pos (by omega), List.getElem?_append_right (by simp; omega), List.getElem?_append_left (by simp; omega)]
      congr 2
      simp; omega
    · rw [if_neg (by omega), List.getElem?_append_right (by simp; omega), List.getElem?_append_right (by simp; omega), List.getElem?_drop]
      congr 2
      simp; omega
@[go_sem] theorem spl_all (t x : List UInt8) (h : x.length = t.length) : spl t 0 x = x := by
  rw [spl, List.take_zero, List.nil_append, Nat.zero_add, h, List.drop_length, List.append_nil]
theorem bytesC_getv (t : List UInt8) (i : Nat) : (bytesC t)[i]? = (t[i]?).map fun b => AV.v (.int .u8 b.toNat) := by simp [bytesC]

/-- Rows of byte arrays. -/
abbrev secG (l : List (List UInt8)) : List (List AV) := l.map bytesC
@[go_sem] theorem secG_length (l : List (List UInt8)) : (secG l).length = l.length := by simp [secG]
@[go_sem] theorem secG_get (l : List (List UInt8)) (i : Nat) : (secG l)[i]? = (l[i]?).map bytesC := by simp [secG]
@[go_sem] theorem flat_secG (l : List (List UInt8)) : flat (secG l) = bytesC l.flatten := by
  unfold flat bytesC secG
  induction l with
  | nil => rfl
  | cons a r ih => simp only [List.map_cons, List.flatten_cons, List.map_append]; rw [ih]; rfl
@[go_sem] theorem flat_zeros (n : Nat) (z : List UInt8) : flat (List.replicate n (bytesC z)) = bytesC (List.replicate n z).flatten := by
  have := flat_secG (List.replicate n z)
  rwa [secG, List.map_replicate] at this
@[go_sem] theorem bytesC_set (t : List UInt8) (i : Nat) (x : Int) (h0 : 0 ≤ x) (h1 : x ≤ 255) : (bytesC t).set i (AV.v (.int .u8 x)) = bytesC (t.set i (UInt8.ofNat x.toNat)) := by
  have e : ((UInt8.ofNat x.toNat).toNat : Int) = x := by
    rw [UInt8.toNat_ofNat']
    omega
  simp only [bytesC, List.map_set, e]
@[go_sem] theorem ofNat_self (c : UInt8) : UInt8.ofNat c.toNat = c := by simp
@[go_sem] theorem flat_zero1 (n : Nat) : flat (List.replicate n [AV.v (.int .u8 0)]) = bytesC (zerosB n) := by
  unfold zerosB
  induction n with
  | zero => rfl
  | succ n ih => rw [List.replicate_succ, flat_cons, ih]; rfl

def all64 (l : List (List UInt8)) : Prop := ∀ x ∈ l, x.length = 64
theorem all64_cons {a : List UInt8} {l : List (List UInt8)} (h : all64 (a :: l)) : a.length = 64 ∧ all64 l := ⟨h a (by simp), fun x hx => h x (by simp [hx])⟩
theorem flat64_length : ∀ (l : List (List UInt8)), all64 l → l.flatten.length = l.length * 64 := by
  intro l
  induction l with
  | nil => intro _; rfl
  | cons a r ih =>
    intro h
    obtain ⟨h1, h2⟩ := all64_cons h
    rw [List.flatten_cons, List.length_append, h1, ih h2, List.length_cons, Nat.add_mul]
    omega
theorem flat64_get : ∀ (l : List (List UInt8)) (i : Nat) (x : List UInt8), all64 l → l[i]? = some x → (l.flatten.drop (i * 64)).take 64 = x := by
  intro l
  induction l with
  | nil => intro i x _ h; simp at h
  | cons a r ih =>
    intro i x h hx
    obtain ⟨h1, h2⟩ := all64_cons h
    cases i with
    | zero =>
      simp at hx
      subst hx
      rw [Nat.zero_mul, List.drop_zero, List.flatten_cons, List.take_append_of_le_length (by omega), List.take_of_length_le (by omega)]
    | succ i =>
      rw [List.flatten_cons, show (i + 1) * 64 = a.length + i * 64 by omega, List.drop_append]
      rw [show a.drop (a.length + i * 64) = [] from List.drop_eq_nil_of_le (by omega), List.nil_append, Nat.add_sub_cancel_left]
      exact ih i x h2 (by simpa using hx)
theorem flat64_set : ∀ (l : List (List UInt8)) (i : Nat) (x : List UInt8), all64 l → i < l.length → x.length = 64 → spl l.flatten (i * 64) x = (l.set i x).flatten := by
  intro l
  induction l with
  | nil => intro i x _ h; simp at h
  | cons a r ih =>
    intro i x h hi hx
    obtain ⟨h1, h2⟩ := all64_cons h
    cases i with
    | zero =>
      rw [Nat.zero_mul, List.set_cons_zero, List.flatten_cons, List.flatten_cons, spl, List.take_zero, List.nil_append, Nat.zero_add, hx, ← h1, List.drop_left]
    | succ i =>
      have := ih i x h2 (by simpa using hi) hx
      rw [List.set_cons_succ, List.flatten_cons, List.flatten_cons, ← this, spl, spl, show (i + 1) * 64 = a.length + i * 64 by omega]
      rw [List.take_append, List.take_of_length_le (by omega), Nat.add_sub_cancel_left, List.append_assoc, List.drop_append, show a.length + i * 64 + x.length - a.length = i * 64 + x.length by omega,
        show a.drop (a.length + i * 64 + x.length) = [] from List.drop_eq_nil_of_le (by omega), List.nil_append]
theorem all64_set {l : List (List UInt8)} (h : all64 l) (i : Nat) {x : List UInt8} (hx : x.length = 64) : all64 (l.set i x) := fun y hy => by
  rcases List.mem_or_eq_of_mem_set hy with h1 | h1
  · exact h y h1
  · rw [h1]; exact hx
theorem chunk64 : ∀ (l : List (List UInt8)), all64 l → chunk 64 l.length (bytesC l.flatten) = secG l := by
  intro l
  induction l with
  | nil => intro _; rfl
  | cons a r ih =>
    intro h
    obtain ⟨h1, h2⟩ := all64_cons h
    rw [List.length_cons, chunk, bytesC_take, bytesC_drop, List.flatten_cons, List.take_append_of_le_length (by omega), List.take_of_length_le (by omega), ← h1, List.drop_left, h1, ih h2]
    rfl
theorem lt_sec {n : Nat} (l : List (List UInt8)) : Lt n (.lst 64 (secG l)) := .lst _ _ fun i j g c hi hj => by
  simp only [secG, List.getElem?_map] at hi
  obtain ⟨x, _, rfl⟩ := Option.map_eq_some_iff.1 hi
  exact (bytesC_lt x j c hj).mono (Nat.zero_le _)

/-- Values with a row of one's own among them, that is only read from now on. -/
theorem Fin.froz {E : Ent} {N : List Box} {r r' : AV} {b g n : Nat} {full : Bool} {bx : Box} {L : List (List UInt8)} {K : AV → List Box → Prop} (hb : (E.H ++ N)[b]? = some bx) (hge : E.H.length ≤ b) (hg : bx.gen = g) (hc : bx.cells = bytesC L.flatten) (hn : n = L.length) (h64 : all64 L)
    (hsw : ∀ (w : World) (H : List Box) (β : Pl) (v : Value), (∀ x, Rep w H β (.sl b g 0 n 64 full) x → Rep w H β (.lst 64 (secG L)) x) → Rep w H β r v → Rep w H β r' v) (hlt : Lt 0 r') (h : K r' E.H) : Fin E r (E.H ++ N) K :=
  ⟨r', E.H, fun w β v hI hs hr => by
    have hfl := flat64_length L h64
    have hfit : 0 + n * 64 ≤ bx.cells.length := by rw [hc, bytesC_length, hfl, hn]; omega
    obtain ⟨h1, h2⟩ := freeze_inv hI hb hfit
    have hbl : b < (E.H ++ N).length := (List.getElem?_eq_some_iff.1 hb).1
    have hr' := hsw w _ β v (fun x hx => by
      have hv : Rep w _ β (.lst 64 (chunk 64 n (bx.cells.drop 0))) x := rep_view (bx := { bx with ro := max bx.ro (0 + n * 64) }) h1 (List.getElem?_set_self hbl) hg (Nat.le_max_right _ _) hx
      have hcell : chunk 64 n (bx.cells.drop 0) = secG L := by rw [List.drop_zero, hc, hn, chunk64 L h64]
      rwa [hcell] at hv) (hr.stp h2)
    have hs' := hs.trans h2
    rw [List.set_append_right _ _ hge] at h1 hs' hr'
    obtain ⟨g1, g2, g3⟩ := cut_inv h1 hs' (fun i bx hi j c hj => E.inv.ltCells hi hj) (Nat.le_refl _)
    exact ⟨β, g1, g2, g3 _ _ (hlt.mono (Nat.zero_le _)) hr'⟩, h⟩
theorem rep_agg_sw {w : World} {H : List Box} {β : Pl} {a a' : AV} {r : List AV} {v : Value} (h : ∀ x, Rep w H β a x → Rep w H β a' x) (hr : Rep w H β (.agg (a :: r)) v) : Rep w H β (.agg (a' :: r)) v := by
  cases hr with
  | agg cs vs hl hh =>
    refine .agg _ vs (by simpa using hl) fun i c x hc hx => ?_
    cases i with
    | zero => simp at hc; subst hc; exact h _ (hh 0 _ x rfl hx)
    | succ i => exact hh (i + 1) c x (by simpa using hc) hx
theorem rep_tup_sw {w : World} {H : List Box} {β : Pl} {a a' : AV} {r : List AV} {v : Value} (h : ∀ x, Rep w H β a x → Rep w H β a' x) (hr : Rep w H β (.tup (a :: r)) v) : Rep w H β (.tup (a' :: r)) v := by
  cases hr with
  | tup cs vs hl hh =>
    refine .tup _ vs (by simpa using hl) fun i c x hc hx => ?_
    cases i with
    | zero => simp at hc; subst hc; exact h _ (hh 0 _ x rfl hx)
    | succ i => exact hh (i + 1) c x (by simpa using hc) hx
theorem Lt.cons_agg {n : Nat} {a : AV} {r : List AV} (h : Lt n a) (hr : Lt n (.agg r)) : Lt n (.agg (a :: r)) := .agg _ fun i c hc => by
  cases i with
  | zero => simp at hc; subst hc; exact h
  | succ i => cases hr with | agg _ hh => exact hh i c (by simpa using hc)
theorem Lt.cons_tup {n : Nat} {a : AV} {r : List AV} (h : Lt n a) (hr : Lt n (.tup r)) : Lt n (.tup (a :: r)) := .tup _ fun i c hc => by
  cases i with
  | zero => simp at hc; subst hc; exact h
  | succ i => cases hr with | tup _ hh => exact hh i c (by simpa using hc)
theorem Lt.nil_agg {n : Nat} : Lt n (.agg []) := .agg _ fun i c hc => by simp at hc
theorem Lt.nil_tup {n : Nat} : Lt n (.tup []) := .tup _ fun i c hc => by simp at hc
theorem lt_bytesC {n : Nat} (bs : List UInt8) : Lt n (.agg (bytesC bs)) := .agg _ fun i c hc => (bytesC_lt bs i c hc).mono (Nat.zero_le _)

end Go.Proofs.YtjkdahpoalnjjaaDoor.VL

/- The value logic, part 10d: regions that draw their order, in which operations change boxes or make new ones: each tells which box it changes; what others may change beside it is anything to it. -/
import Derived.Test.YtjkdahpoalnjjaaDoorZCc
import Derived.Scope
import Derived.Recover
set_option linter.unusedVariables false
set_option linter.unusedSimpArgs false
namespace Go.Proofs.YtjkdahpoalnjjaaDoor.VL
open Go Go.RowKit Go.Lib

/-- What an operation does to the boxes: nothing; it changes box k; it makes box k, whose place is kept for it. -/
inductive Kd where
  | same
  | wr (k : Nat)
  | new (k : Nat)
def Kd.box : Kd → Option Nat
  | .same => none
  | .wr k => some k
  | .new k => some k
abbrev Sp := Kd × List Nat

instance : Inhabited Box := ⟨⟨[], 0, 0, false⟩⟩

/-- Boxes M are whatever f says. -/
def patch (f : Nat → Box) : List Nat → List Box → List Box
  | [], H => H
  | m :: M, H => patch f M (H.set m (f m))
theorem patch_length (f : Nat → Box) : ∀ (M : List Nat) (H : List Box), (patch f M H).length = H.length
  | [], _ => rfl
  | m :: M, H => by rw [patch, patch_length f M]; simp
theorem patch_get (f : Nat → Box) : ∀ (M : List Nat) (H : List Box) (k : Nat), (patch f M H)[k]? = if k ∈ M ∧ k < H.length then some (f k) else H[k]?
  | [], _, _ => by simp [patch]
  | m :: M, H, k => by
    rw [patch, patch_get f M, List.length_set]
    by_cases hM : k ∈ M
    · by_cases hk : k < H.length
      · rw [if_pos ⟨hM, hk⟩, if_pos ⟨List.mem_cons_of_mem _ hM, hk⟩]
      · rw [if_neg (by omega), if_neg (by omega), List.getElem?_eq_none (by simp; omega), List.getElem?_eq_none (by omega)]
    · rw [if_neg (by simp [hM])]
      by_cases hkm : k = m
      · subst hkm
        by_cases hk : k < H.length
        · rw [if_pos ⟨by simp, hk⟩, List.getElem?_set_self hk]
        · rw [if_neg (by omega), List.getElem?_eq_none (by simp; omega), List.getElem?_eq_none (by omega)]
      · rw [List.getElem?_set_ne (Ne.symm hkm), if_neg (by simp [hkm, hM])]
theorem patch_congr {f : Nat → Box} {M : List Nat} {H H' : List Box} (hl : H'.length = H.length) (h : ∀ k, k ∉ M → H'[k]? = H[k]?) : patch f M H' = patch f M H := by
  apply List.ext_getElem?
  intro k
  rw [patch_get, patch_get, hl]
  split
  · rfl
  · rename_i hk
    by_cases hM : k ∈ M
    · have : ¬ k < H.length := fun hh => hk ⟨hM, hh⟩
      rw [List.getElem?_eq_none (by omega), List.getElem?_eq_none (by omega)]
    · exact h k hM
theorem patch_self (M : List Nat) (H : List Box) : patch (fun k => (H[k]?).getD default) M H = H := by
  apply List.ext_getElem?
  intro k
  rw [patch_get]
  split
  · rename_i hk
    rw [List.getElem?_eq_getElem hk.2]; rfl
  · rfl

def seto (H : List Box) : Option (Nat × Box) → List Box
  | none => H
  | some (k, b) => H.set k b
theorem seto_length (H : List Box) (u : Option (Nat × Box)) : (seto H u).length = H.length := by cases u <;> simp [seto]
theorem seto_off {H : List Box} {u : Option (Nat × Box)} {M : List Nat} (h : ∀ k b, u = some (k, b) → k ∈ M) (k : Nat) (hk : k ∉ M) : (seto H u)[k]? = H[k]? := by
  cases u with
  | none => rfl
  | some x =>
    obtain ⟨m, b⟩ := x
    have : m ≠ k := fun e => hk (e ▸ h m b rfl)
    exact List.getElem?_set_ne this
theorem seto_comm {H : List Box} {u v : Option (Nat × Box)} (h : ∀ k b k' b', u = some (k, b) → v = some (k', b') → k ≠ k') : seto (seto H u) v = seto (seto H v) u := by
  cases u with
  | none => rfl
  | some x =>
    cases v with
    | none => rfl
    | some y => exact List.set_comm _ _ (h _ _ _ _ rfl rfl)

section
variable {P : Program} {E : Ent} {ops : Array Oper} {md : Region.Mode} {H0 : List Box} {n : Nat} {sp : List Sp}

def hyield (P : Program) (E : Ent) (H : List Box) (T : Tmps) (o : Oper) (r : AV) (H' : List Box) : Prop :=
  match o.op with
  | .call { callee := .value f, args, .. } =>
    ∃ fid caps, feval T f = .fn fid caps ∧ acall P E.base fid (args.toList.map (fun x => unlit (feval T x)) ++ caps) H fun out H1 => out = .ret r ∧ H1 = H'
  | op => aop P o.type E.base (feval T) H op = some (r, H')

def hdo (P : Program) (E : Ent) (H0 : List Box) (n : Nat) (s : Sp) (N : List Box) (o : Oper) (r : AV) (u : Option (Nat × Box)) (T : Tmps) : Prop :=
  match s.1 with
  | .same => u = none ∧ ∀ f, hyield P E (H0 ++ patch f s.2 N) T o r (H0 ++ patch f s.2 N)
  | .wr k => ∃ b, u = some (k, b) ∧ ∀ f, hyield P E (H0 ++ patch f s.2 N) T o r (H0 ++ (patch f s.2 N).set k b)
  | .new k => n ≤ k ∧ (∃ bx, N[k]? = some bx ∧ bx.gen = 0) ∧ ((∃ t cs, o.op = .alloc t ∧ zeroCs P t = some cs ∧ r = .ptr (H0.length + k) 1 0 ∧ u = some (k, ⟨cs, 0, 1, false⟩)) ∨ (∃ sz, r = .sl (H0.length + k) 0 0 0 sz false ∧ u = none ∧ ∀ f, hyield P E (H0 ++ patch f s.2 N) T o .emp (H0 ++ patch f s.2 N)))

def HY (P : Program) (E : Ent) (ops : Array Oper) (H0 : List Box) (n : Nat) (s : Sp) (N : List Box) (o : Oper) (r : AV) (u : Option (Nat × Box)) (T : Tmps) : Prop :=
  dstOk E o.dst ∧ ((wantedF ops T o = some true ∧ hdo P E H0 n s N o r u T) ∨ (wantedF ops T o = some false ∧ r = .v undef ∧ u = none))

theorem HY.box {s : Sp} {N : List Box} {o : Oper} {r : AV} {u : Option (Nat × Box)} {T : Tmps} (h : HY P E ops H0 n s N o r u T) {k : Nat} {b : Box} (hu : u = some (k, b)) : s.1.box = some k := by
  rcases h.2 with ⟨_, h⟩ | ⟨_, _, h⟩
  · unfold hdo at h
    split at h
    · rw [h.1] at hu; cases hu
    · rename_i k' hs
      obtain ⟨b', e, _⟩ := h
      rw [e] at hu
      injection hu with hu
      injection hu with e1 e2
      rw [hs, ← e1]; rfl
    · rename_i k' hs
      rcases h with ⟨_, _, ⟨t, cs, _, _, _, e⟩ | ⟨_, _, e, _⟩⟩
      · rw [e] at hu
        injection hu with hu
        injection hu with e1 e2
        rw [hs, ← e1]; rfl
      · rw [e] at hu; cases hu
  · rw [h] at hu; cases hu

theorem HY.congr {s : Sp} {N N' : List Box} {o : Oper} {r : AV} {u : Option (Nat × Box)} {T T' : Tmps} (h : HY P E ops H0 n s N o r u T) (hc : ∀ t ∈ o.looksAt ops, T' t = T t)
    (hl : N'.length = N.length) (hN : ∀ k, k ∉ s.2 → N'[k]? = N[k]?) (hown : ∀ k, s.1.box = some k → k ∉ s.2) : HY P E ops H0 n s N' o r u T' := by
  have hop : ∀ x ∈ o.op.operands, feval T' x = feval T x := fun x hx => by
    cases x with
    | tmp t => exact hc t (by simp only [Oper.looksAt, List.mem_append, List.mem_filterMap]; exact .inl ⟨.tmp t, by simpa using hx, rfl⟩)
    | _ => rfl
  have hw : wantedF ops T' o = wantedF ops T o := by
    unfold wantedF
    split
    · rfl
    · rename_i j want hg
      have : yieldF ops T' j = yieldF ops T j := by
        unfold yieldF
        cases hd : (ops[j]?).bind (·.dst) with
        | none => rfl
        | some d =>
          have := hc d (by simp only [Oper.looksAt, hg, List.mem_append]; exact .inr (by rw [hd]; simp))
          simp only [this]
      rw [this]
  have hq : ∀ {r : AV} (X Y : List Box), hyield P E X T o r Y → hyield P E X T' o r Y := fun {r} X Y hq => by
    unfold hyield at hq ⊢
    split at hq
    · rename_i f args ts ho
      obtain ⟨fid, caps, h1, h2⟩ := hq
      refine ⟨fid, caps, ?_, ?_⟩
      · rw [hop f (by simp [ho, Op.operands, Call.operands]), h1]
      · have : args.toList.map (fun x => unlit (feval T' x)) = args.toList.map (fun x => unlit (feval T x)) := List.map_congr_left fun x hx => congrArg unlit (hop x (by simp [ho, Op.operands, Call.operands]; exact .inr (by simpa using hx)))
        rw [this]; exact h2
    · rename_i ho
      rw [aop_congr (A := feval T') (A' := feval T) o.op hop]
      exact hq
  have hd : hdo P E H0 n s N o r u T → hdo P E H0 n s N' o r u T' := fun hd => by
    unfold hdo at hd ⊢
    split at hd
    · refine ⟨hd.1, fun f => ?_⟩
      rw [patch_congr hl hN]
      exact hq _ _ (hd.2 f)
    · obtain ⟨b, e, hf⟩ := hd
      refine ⟨b, e, fun f => ?_⟩
      rw [patch_congr hl hN]
      exact hq _ _ (hf f)
    · rename_i k hs
      obtain ⟨h1, h2, h3⟩ := hd
      refine ⟨h1, by rw [hN k (hown k (by rw [hs]; rfl))]; exact h2, h3.imp id fun ⟨sz, e1, e2, hf⟩ => ⟨sz, e1, e2, fun f => ?_⟩⟩
      rw [patch_congr hl hN]
      exact hq _ _ (hf f)
  exact ⟨h.1, h.2.imp (fun ⟨a, b⟩ => ⟨by rw [hw]; exact a, hd b⟩) fun ⟨a, b⟩ => ⟨by rw [hw]; exact a, b⟩⟩

def spAt (sp : List Sp) (i : Nat) : Sp := (sp[i]?).getD (.same, [])
def hOp (P : Program) (E : Ent) (ops : Array Oper) (H0 : List Box) (n : Nat) (sp : List Sp) (i : Nat) (K : Tmps → List Box → Prop) (T : Tmps) (N : List Box) : Prop :=
  match ops[i]? with
  | none => K T N
  | some o => ∃ r u, HY P E ops H0 n (spAt sp i) N o r u T ∧ K (fput T o.dst r) (seto N u)
theorem hOp_mono {i : Nat} {T : Tmps} {N : List Box} {K K' : Tmps → List Box → Prop} (h : ∀ T N, K T N → K' T N) (hh : hOp P E ops H0 n sp i K T N) : hOp P E ops H0 n sp i K' T N := by
  unfold hOp at *
  split
  · exact h _ _ (by simpa [*] using hh)
  · rename_i o ho
    simp only [ho] at hh
    obtain ⟨r, u, h1, h2⟩ := hh
    exact ⟨r, u, h1, h _ _ h2⟩
theorem HY.hOp {i : Nat} {o : Oper} {r : AV} {u : Option (Nat × Box)} {T : Tmps} {N : List Box} (hi : ops[i]? = some o) (hy : HY P E ops H0 n (spAt sp i) N o r u T) {K : Tmps → List Box → Prop} (h : K (fput T o.dst r) (seto N u)) : hOp P E ops H0 n sp i K T N := by
  unfold VL.hOp
  simp only [hi]
  exact ⟨r, u, hy, h⟩

def ownOk (a : Sp) : Bool := match a.1.box with | some k => !a.2.contains k | none => true
def inOk (a b : Sp) : Bool := match a.1.box with | some k => b.2.contains k && b.1.box != some k | none => true
def wmOk (a b : Sp) : Bool := ownOk a && ownOk b && inOk a b && inOk b a
theorem ownOk_spec {a : Sp} (h : ownOk a = true) (k : Nat) (hk : a.1.box = some k) : k ∉ a.2 := by
  unfold ownOk at h
  rw [hk] at h
  simpa using h
theorem inOk_spec {a b : Sp} (h : inOk a b = true) (k : Nat) (hk : a.1.box = some k) : k ∈ b.2 ∧ b.1.box ≠ some k := by
  unfold inOk at h
  rw [hk] at h
  simpa using h

theorem hOp_put {j : Nat} {oi oj : Oper} {si : Sp} {r : AV} {u : Option (Nat × Box)} (hj : ops[j]? = some oj) (hap : oi.apart ops oj = true) (hwm : wmOk si (spAt sp j) = true) {K : Tmps → List Box → Prop} {T : Tmps} {N : List Box}
    (hy : HY P E ops H0 n si N oi r u T) (h : hOp P E ops H0 n sp j K (fput T oi.dst r) (seto N u)) : hOp P E ops H0 n sp j (fun T' N' => HY P E ops H0 n si N' oi r u T' ∧ K (fput T' oi.dst r) (seto N' u)) T N := by
  obtain ⟨h1, h2, h3⟩ := Oper.apart_spec hap
  simp only [wmOk, Bool.and_eq_true] at hwm
  obtain ⟨⟨⟨w1, w2⟩, w3⟩, w4⟩ := hwm
  unfold hOp at *
  simp only [hj] at *
  obtain ⟨r', u', hu, hk⟩ := h
  have hyu : ∀ k b, u = some (k, b) → k ∈ (spAt sp j).2 := fun k b e => (inOk_spec w3 k (hy.box e)).1
  have hyu' : ∀ k b, u' = some (k, b) → k ∈ si.2 := fun k b e => (inOk_spec w4 k (hu.box e)).1
  refine ⟨r', u', hu.congr (fun t ht => (fput_looks h1 t ht).symm) (by rw [seto_length]) (fun k hk => (seto_off hyu k hk).symm) (ownOk_spec w2),
    hy.congr (fput_looks h3) (by rw [seto_length]) (fun k hk => seto_off hyu' k hk) (ownOk_spec w1), ?_⟩
  rw [← fput_comm T r r' h2, seto_comm fun k b k' b' e e' hkk => by
    have := (inOk_spec w3 k (hy.box (by subst hkk; exact e'))).2
    subst hkk
    exact this (hu.box e)]
  exact hk

def wpAnyH (P : Program) (E : Ent) (md : Region.Mode) (ops : Array Oper) (H0 : List Box) (n : Nat) (sp : List Sp) (Q : Tmps → List Box → Prop) : Nat → Array Bool → Tmps → List Box → Prop
  | 0, listed, T, N => Region.ready md ops listed = [] ∧ Q T N
  | fuel + 1, listed, T, N =>
    (Region.ready md ops listed = [] → Q T N) ∧
    ∀ i ∈ Region.ready md ops listed, hOp P E ops H0 n sp i (wpAnyH P E md ops H0 n sp Q fuel (listed.setIfInBounds i true)) T N

/-- Those that wait for i. -/
def descL (md : Region.Mode) (ops : Array Oper) : List Nat → List Nat → List Nat
  | [], D => D
  | j :: l, D => descL md ops l (if D.any (fun u => decide (u < j) && Region.waitsFor md ops j u) = true then j :: D else D)
def desc (md : Region.Mode) (ops : Array Oper) (i : Nat) : List Nat := descL md ops (List.range ops.size) [i]
theorem descL_spec {i : Nat} : ∀ (l D : List Nat), (∀ j, j ∈ D → j = i ∨ ∃ u, u ∈ D ∧ u < j ∧ Region.waitsFor md ops j u = true) →
    ∀ j, j ∈ descL md ops l D → j = i ∨ ∃ u, u ∈ descL md ops l D ∧ u < j ∧ Region.waitsFor md ops j u = true
  | [], D, h => h
  | x :: l, D, h => by
    rw [descL]
    refine descL_spec l _ fun j hj => ?_
    split at hj
    · rename_i hx
      rw [if_pos hx]
      rcases List.mem_cons.1 hj with rfl | hj
      · obtain ⟨u, hu, h2⟩ := List.any_eq_true.1 hx
        simp only [Bool.and_eq_true, decide_eq_true_eq] at h2
        exact .inr ⟨u, List.mem_cons_of_mem _ hu, h2⟩
      · exact (h j hj).imp id fun ⟨u, hu, h2⟩ => ⟨u, List.mem_cons_of_mem _ hu, h2⟩
    · rename_i hx
      rw [if_neg hx]
      exact h j hj
theorem desc_listed {i : Nat} {listed : Array Bool} (inv : HeadInv md ops ops.size listed) : ∀ (j : Nat), j ∈ desc md ops i → listed.getD j false = true → listed.getD i false = true := by
  intro j
  induction j using Nat.strongRecOn with
  | _ j ih =>
    intro hj hl
    rcases descL_spec (i := i) (List.range ops.size) [i] (fun j hj => .inl (by simpa using hj)) j hj with rfl | ⟨u, hu, hlt, hw⟩
    · exact hl
    · obtain ⟨oj, hoj, e, he, hb, hon⟩ := Region.waitsFor_spec hw
      have := inv.closed j oj hoj hl e he hb
      rw [hon] at this
      exact ih u hlt hu this
theorem desc_waits {i j : Nat} {listed : Array Bool} (inv : HeadInv md ops ops.size listed) (hd : j ∈ desc md ops i) (hne : j ≠ i) (hi : listed.getD i false = false) : j ∉ Region.ready md ops listed := by
  intro hr
  rcases descL_spec (i := i) (List.range ops.size) [i] (fun j hj => .inl (by simpa using hj)) j hd with rfl | ⟨u, hu, hlt, hw⟩
  · exact hne rfl
  · obtain ⟨oj, hoj, e, he, hb, hon⟩ := Region.waitsFor_spec hw
    obtain ⟨_, oj', hoj', hall⟩ := mem_ready.1 hr
    have : oj' = oj := Option.some.inj (hoj'.symm.trans hoj)
    subst this
    have hl := hall e he hb
    rw [hon] at hl
    rw [desc_listed inv u hu hl] at hi
    cases hi

theorem wpAnyH_first {Q : Tmps → List Box → Prop} {i : Nat} {oi : Oper} {r : AV} {u : Option (Nat × Box)} (hi : ops[i]? = some oi)
    (hp : ∀ j oj, i < j → ops[j]? = some oj → j ∈ desc md ops i ∨ (oi.apart ops oj = true ∧ wmOk (spAt sp i) (spAt sp j) = true)) :
    ∀ (fuel : Nat) (listed : Array Bool) (T : Tmps) (N : List Box), HeadInv md ops ops.size listed → (∀ j, listed.getD j true = false → j ≠ i → i < j) →
      i ∈ Region.ready md ops listed → HY P E ops H0 n (spAt sp i) N oi r u T →
      wpAnyH P E md ops H0 n sp Q fuel (listed.setIfInBounds i true) (fput T oi.dst r) (seto N u) → wpAnyH P E md ops H0 n sp Q (fuel + 1) listed T N := by
  intro fuel
  induction fuel with
  | zero =>
    intro listed T N inv hlt hr hy HH
    refine ⟨fun h => (by rw [h] at hr; cases hr), fun j hj => ?_⟩
    by_cases hji : j = i
    · subst hji; exact hy.hOp hi HH
    · have := ready_mono hj hji
      rw [HH.1] at this
      cases this
  | succ fuel ih =>
    intro listed T N inv hlt hr hy HH
    refine ⟨fun h => (by rw [h] at hr; cases hr), fun j hj => ?_⟩
    by_cases hji : j = i
    · subst hji; exact hy.hOp hi HH
    · have h1 := HH.2 j (ready_mono hj hji)
      obtain ⟨hjun, oj, hoj, hall⟩ := mem_ready.1 hj
      have hiun := (mem_ready.1 hr).1
      have hij := hlt j hjun hji
      obtain ⟨hap, hwm⟩ : oi.apart ops oj = true ∧ wmOk (spAt sp i) (spAt sp j) = true := by
        rcases hp j oj hij hoj with hd | h
        · exact absurd hj (desc_waits inv hd hji (getD_both hiun))
        · exact h
      have h2 := hOp_put hoj hap hwm hy h1
      have hjlt : j < ops.size := (Array.getElem?_eq_some_iff.1 hoj).1
      refine hOp_mono (fun T' N' h3 => ih (listed.setIfInBounds j true) T' N' (inv.set hj hjlt) (fun k hk hki => ?_) (ready_mono hr (Ne.symm hji)) h3.1 ?_) h2
      · by_cases hjk : j = k
        · subst hjk; exact hij
        · rw [getD_set_ne true hjk] at hk; exact hlt k hk hki
      · rw [Array.setIfInBounds_comm _ _ hji]
        exact h3.2

/-- The text's order. -/
def wpHQ (P : Program) (E : Ent) (ops : Array Oper) (H0 : List Box) (n : Nat) (Q : Tmps → List Box → Prop) : List Oper → List Sp → Tmps → List Box → Prop
  | [], _, T, N => Q T N
  | o :: rest, ss, T, N => ∃ r u, HY P E ops H0 n (ss.headD (.same, [])) N o r u T ∧ wpHQ P E ops H0 n Q rest ss.tail (fput T o.dst r) (seto N u)

def pairB (md : Region.Mode) (ops : Array Oper) (sp : List Sp) (i : Nat) (oi : Oper) (D : List Nat) : List Nat → Bool
  | [] => true
  | j :: l => (Nat.ble j i || (D.contains j || (match ops[j]? with | some oj => oi.apart ops oj && wmOk (spAt sp i) (spAt sp j) | none => true))) && pairB md ops sp i oi D l
def holeFrom (md : Region.Mode) (ops : Array Oper) (sp : List Sp) : Nat → Nat → Array Bool → Bool
  | 0, _, listed => (Region.ready md ops listed).isEmpty
  | f + 1, k, listed => (Region.ready md ops listed).contains k && ((match ops[k]? with | some ok => pairB md ops sp k ok (desc md ops k) (List.range ops.size) | none => true) && holeFrom md ops sp f (k + 1) (listed.setIfInBounds k true))
def holeB (md : Region.Mode) (ops : Array Oper) (sp : List Sp) : Bool := holeFrom md ops sp ops.size 0 (Array.replicate ops.size false)
theorem pairB_spec {i : Nat} {oi : Oper} {D : List Nat} : ∀ (l : List Nat), pairB md ops sp i oi D l = true → ∀ j oj, j ∈ l → i < j → ops[j]? = some oj → j ∈ D ∨ (oi.apart ops oj = true ∧ wmOk (spAt sp i) (spAt sp j) = true)
  | [], _, j, oj, hj, _, _ => by cases hj
  | x :: l, h, j, oj, hj, hij, hoj => by
    simp only [pairB, Bool.and_eq_true] at h
    rcases List.mem_cons.1 hj with rfl | hj
    · have h1 := h.1
      rw [hoj] at h1
      simp only [Bool.or_eq_true, Bool.and_eq_true, List.contains_iff_mem] at h1
      rcases h1 with h1 | h1
      · have := Nat.le_of_ble_eq_true h1; omega
      · exact h1
    · exact pairB_spec l h.2 j oj hj hij hoj

theorem wpAnyH_lex {Q : Tmps → List Box → Prop} : ∀ (l : List Oper) (k : Nat) (listed : Array Bool) (T : Tmps) (N : List Box), (∀ j, l[j]? = ops[k + j]?) → HeadInv md ops ops.size listed → (∀ j, listed.getD j true = false → k ≤ j) →
    holeFrom md ops sp l.length k listed = true → wpHQ P E ops H0 n Q l (sp.drop k) T N → wpAnyH P E md ops H0 n sp Q l.length listed T N
  | [], _, listed, _, _, _, _, _, hB, h => ⟨by simpa [holeFrom] using hB, h⟩
  | o :: l, k, listed, T, N, hl, inv, hun, hB, h => by
    have h0 : ops[k]? = some o := by simpa using (hl 0).symm
    have hk : k < ops.size := (Array.getElem?_eq_some_iff.1 h0).1
    simp only [List.length_cons, holeFrom, Bool.and_eq_true, h0] at hB
    obtain ⟨hr, hp, hB'⟩ := hB
    have hr' : k ∈ Region.ready md ops listed := by simpa using hr
    obtain ⟨r, u, hy, hK⟩ := h
    have hsp : (sp.drop k).headD (.same, []) = spAt sp k := by
      unfold spAt
      rw [List.headD_eq_head?_getD, List.head?_drop]
    rw [hsp] at hy
    rw [List.tail_drop] at hK
    refine wpAnyH_first h0 (fun j oj hij hoj => pairB_spec _ hp j oj (List.mem_range.2 (Array.getElem?_eq_some_iff.1 hoj).1) hij hoj) l.length listed T N inv (fun j hj hne => by have := hun j hj; omega) hr' hy
      (wpAnyH_lex l (k + 1) _ _ _ (fun j => by have := hl (j + 1); simpa [Nat.add_assoc, Nat.add_comm 1 j] using this) (inv.set hr' hk) (fun j hj => ?_) hB' hK)
    by_cases hjk : k = j
    · subst hjk
      have : (listed.setIfInBounds k true).getD k true = true := by
        rw [Array.getD_eq_getD_getElem?, Array.getElem?_setIfInBounds]
        simp only [if_pos]
        split <;> rfl
      rw [this] at hj
      cases hj
    · rw [getD_set_ne true hjk] at hj
      have := hun j hj
      omega

theorem SimF.put' {H H' : List Box} {T : Tmps} {β β' : Pl} {a : Act} {w w' : World} (h : SimF E T H β a w) (d : Option Tmp) (hd : dstOk E d) {r : AV} {v : Value} (hI : Inv E.base w' H' β') (hs : Stp E.base w H β w' H' β') (hr : Rep w' H' β' r v) :
    SimF E (fput T d r) H' β' (a.put d v) w' := by
  refine ⟨?_, ?_, hI, h.stp.trans hs, fun k => ?_⟩
  · cases d <;> exact h.defers
  · cases d with
    | none => exact h.size
    | some d => simp [Act.put, h.size]
  · cases d with
    | none => exact (h.tmps k).stp hs
    | some d =>
      simp only [dstOk] at hd
      by_cases hk : d = k
      · subst hk
        have : (a.put (some d) v).tmps.getD d undef = v := by
          simp [Act.put, h.size, hd]
        rw [this]
        simpa [fput] using hr
      · have : (a.put (some d) v).tmps.getD k undef = a.tmps.getD k undef := by
          simp [Act.put, Array.getElem?_setIfInBounds_ne hk]
        rw [this]
        have h2 : fput T (some d) r k = T k := by simp [fput, hk]
        rw [h2]
        exact (h.tmps k).stp hs

/-- Places that are kept have no memory yet. -/
def Hol (H0 : List Box) (n : Nat) (N : List Box) (β : Pl) : Prop := ∀ p bx, n ≤ p → N[p]? = some bx → bx.gen = 0 → β (H0.length + p) = none

theorem Hol.stp {base : Nat} {N N' : List Box} {β β' : Pl} {w w' : World} (h : Hol H0 n N β) (hs : Stp base w (H0 ++ N) β w' (H0 ++ N') β') (hl : N'.length = N.length) : Hol H0 n N' β' := by
  intro p bx hn hp hg
  have hp' := (List.getElem?_eq_some_iff.1 hp).1
  have hN : N[p]? = some (N[p]'(by omega)) := List.getElem?_eq_getElem _
  obtain ⟨bx', h1, h2, h3⟩ := hs.ids (H0.length + p) (N[p]'(by omega)) (by rw [List.getElem?_append_right (by omega)]; simp)
  rw [List.getElem?_append_right (by omega), Nat.add_sub_cancel_left, hp] at h1
  obtain rfl := Option.some.inj h1
  rw [h3 (by omega)]
  exact h p _ hn hN (by omega)

theorem hyield_sound {T : Tmps} {β : Pl} {a : Act} {w : World} {H H' : List Box} {o : Oper} {r : AV} {K' : Act → World → Prop} {Q' : Exit → Act → World → Prop} (hs : SimF E T H β a w) (hd : dstOk E o.dst) (hq : hyield P E H T o r H')
    (hK : ∀ a' w' β', SimF E (fput T o.dst r) H' β' a' w' → Stp E.base w H β w' H' β' → K' a' w') : o.wp P a w K' Q' := by
  unfold Oper.wp
  unfold hyield at hq
  split at hq
  · rename_i f args ts hop
    obtain ⟨fid, caps, hf, hc⟩ := hq
    have hfr := hs.eval f
    rw [hf] at hfr
    generalize hv : a.eval f = fv at hfr
    cases hfr with
    | fn _ _ vs hl hr =>
      refine call_upon hop hv (hc w β _ hs.inv ⟨by simp [hl], fun i c x h1 h2 => ?_⟩) ?_ ?_ ?_
      · by_cases hi : i < args.size
        · rw [List.getElem?_append_left (by simpa using hi)] at h1
          rw [Array.getElem?_append_left (by simpa using hi)] at h2
          simp only [List.getElem?_map, Array.getElem?_toList, Array.getElem?_eq_getElem hi, Option.map_some, Option.some.injEq] at h1
          simp only [Array.getElem?_map, Array.getElem?_eq_getElem hi, Option.map_some, Option.some.injEq] at h2
          subst h1; subst h2
          exact unlit_rep (hs.eval _)
        · rw [List.getElem?_append_right (by simp; omega)] at h1
          rw [Array.getElem?_append_right (by simp; omega)] at h2
          simp only [List.length_map, Array.length_toList] at h1
          simp only [Array.size_map] at h2
          exact hr _ c x h1 h2
      · rintro v w' ⟨out, H', β', ⟨rfl, rfl⟩, k2, k3, k4⟩
        exact hK _ _ _ (hs.put' o.dst hd k3 k4 k2) k4
      · rintro c w' ⟨out, H', β', ⟨rfl, rfl⟩, k2, k3, k4⟩
        exact k2.elim
      · rintro w' ⟨out, H', β', ⟨rfl, rfl⟩, k2, k3, k4⟩
        exact k2.elim
  · obtain ⟨v, w', β', hrun, hI', hst, hr⟩ := aop_sound (P := P) hs.inv hs.eval hq
    rcases hrun with hrun | ⟨hrun, rfl⟩
    · rw [hrun, Oper.upon_value]
      exact hK _ _ _ (hs.put' o.dst hd hI' hst hr) hst
    · rw [hrun, Oper.upon_skip]
      exact hK _ _ _ (hs.put' o.dst hd hI' hst hr) hst

theorem SimF.weak {T : Tmps} {H : List Box} {β : Pl} {a : Act} {w : World} {dst : Option Tmp} {b sz : Nat} {bx : Box} (hs : SimF E (fput T dst .emp) H β a w) (hb : H[b]? = some bx) (hg : bx.gen = 0) : SimF E (fput T dst (.sl b 0 0 0 sz false)) H β a w :=
  ⟨hs.defers, hs.size, hs.inv, hs.stp, fun t => by
    have h := hs.tmps t
    cases dst with
    | none => exact h
    | some d =>
      by_cases ht : d = t
      · simp only [fput, if_pos ht] at h ⊢
        generalize a.tmps.getD t undef = x at h ⊢
        cases h with
        | emp a => exact rep_sl hb hg ⟨a, 0, rfl, Nat.le_refl _, by simp, fun hh => absurd hh (by omega)⟩
      · simp only [fput, if_neg ht] at h ⊢
        exact h⟩
theorem abuildSlice_emp {A A' : Operand → AV} {t : TypeId} {len : Nat} {ps : Array (Nat × Operand)} (h : abuildSlice P A t len ps = some .emp) : abuildSlice P A' t len ps = some .emp := by
  by_cases h0 : len = 0
  · subst h0
    unfold abuildSlice at h ⊢
    simpa only [reduceIte] using h
  · exfalso
    unfold abuildSlice at h
    split at h
    · rw [if_neg h0] at h
      split at h
      · obtain ⟨cs, _, h2⟩ := Option.bind_eq_some_iff.1 h
        split at h2
        · cases h2
        · cases h2
      · cases h
    · cases h
theorem alloc_at {base : Nat} {w : World} {H : List Box} {β : Pl} {ρ : Operand → Value} {o : Oper} {t : TypeId} {cs : List AV} {p : Nat} {bx : Box} (hI : Inv base w H β) (hp : H[p]? = some bx) (hg : bx.gen = 0) (hb : β p = none) (ho : o.op = .alloc t) (hz : zeroCs P t = some cs) :
    ∃ v w' β', (execOp ρ o).run P w = .ok (.value v) w' ∧ Inv base w' (H.set p ⟨cs, 0, 1, false⟩) β' ∧ Stp base w H β w' (H.set p ⟨cs, 0, 1, false⟩) β' ∧ Rep w' (H.set p ⟨cs, 0, 1, false⟩) β' (.ptr p 1 0) v ∧ ∀ q, q ≠ p → β' q = β q := by
  obtain ⟨z, h1, rfl, h0⟩ := zero_run hz w
  have hw := Wor.alloc w (.cells z.cells t)
  have hpl := (List.getElem?_eq_some_iff.1 hp).1
  obtain ⟨g1, g2⟩ := repl (w' := w.alloc (.cells z.cells t)) (bx' := ⟨z.cells.toList.map zcell, 0, 1, false⟩) (k' := w.heap.size) (s' := 0) hI hp hw (fun _ _ => False) (fun _ _ hh => hh.elim)
    (fun k x hk _ => alloc_cell w _ k x hk) ⟨hI.bse.le, by simp⟩ (Nat.zero_le _) (.inl (Nat.le_refl _)) (by rw [hg]; exact Nat.zero_le _) (by rw [hg]; intro h; cases h) (fun _ x => alloc_new_frozen w z.cells t x) (fun j c hj => by
      simp only [List.getElem?_map, Array.getElem?_toList, Option.map_eq_some_iff] at hj
      obtain ⟨y, hy, rfl⟩ := hj
      exact ⟨y, by rw [alloc_new, Nat.zero_add]; exact hy, h0 j y hy, rep_zcell y⟩)
  refine ⟨.pointer (some ⟨w.heap.size, 0, none⟩), _, _, ?_, g1, g2, ?_, fun q hq => upd_ne β _ hq⟩
  · simp [execOp, ho, Instr.alloc, h1, newVar, alloc_run]
  · exact .ptr _ _ _ _ ⟨z.cells.toList.map zcell, 0, 1, false⟩ (List.getElem?_set_self hpl) (Nat.le_refl _) ⟨_, rfl⟩ fun _ => ⟨_, _, upd_same _ _ _, rfl⟩

theorem wpOp_of_H {i : Nat} {T : Tmps} {N : List Box} {β : Pl} {a : Act} {w : World} {K : Tmps → List Box → Prop} {K' : Act → World → Prop} {Q' : Exit → Act → World → Prop} (hs : SimF E T (H0 ++ N) β a w) (hh : Hol H0 n N β)
    (hK : ∀ T N a w β, SimF E T (H0 ++ N) β a w → Hol H0 n N β → K T N → K' a w) (h : hOp P E ops H0 n sp i K T N) : wpOp P ops Q' i K' a w := by
  unfold hOp at h
  unfold wpOp
  split
  · rename_i ho; simp only [ho] at h; exact hK _ _ _ _ _ hs hh h
  · rename_i o ho
    simp only [ho] at h
    obtain ⟨r, u, ⟨hd, hy⟩, hk⟩ := h
    rcases hy with ⟨hw, hq⟩ | ⟨hw, rfl, rfl⟩
    · rw [if_pos (wantedF_sim hs hw)]
      left
      unfold hdo at hq
      split at hq
      · obtain ⟨rfl, hq⟩ := hq
        have := hq fun k => (N[k]?).getD default
        rw [patch_self] at this
        exact hyield_sound hs hd this fun a' w' β' s1 s2 => hK _ _ _ _ _ s1 (hh.stp s2 rfl) hk
      · rename_i k _
        obtain ⟨b, rfl, hq⟩ := hq
        have := hq fun k => (N[k]?).getD default
        rw [patch_self] at this
        exact hyield_sound hs hd this fun a' w' β' s1 s2 => hK _ _ _ _ _ s1 (hh.stp s2 (by simp)) hk
      · rename_i k _
        obtain ⟨h1, ⟨bx, h2, h3⟩, hq⟩ := hq
        have hpos : (H0 ++ N)[H0.length + k]? = some bx := by rw [List.getElem?_append_right (by omega), Nat.add_sub_cancel_left]; exact h2
        rcases hq with ⟨t, cs, h4, h5, rfl, rfl⟩ | ⟨sz, rfl, rfl, hq⟩
        rotate_left
        · have := hq fun k => (N[k]?).getD default
          rw [patch_self] at this
          exact hyield_sound hs hd this fun a' w' β' s1 s2 => hK _ _ _ _ _ (s1.weak hpos h3) (hh.stp s2 rfl) hk
        obtain ⟨v, w', β', r1, r2, r3, r4, r5⟩ := alloc_at (P := P) (ρ := a.eval) hs.inv hpos h3 (hh k bx h1 h2 h3) h4 h5
        have hset : (H0 ++ N).set (H0.length + k) ⟨cs, 0, 1, false⟩ = H0 ++ N.set k ⟨cs, 0, 1, false⟩ := by rw [List.set_append_right _ _ (by omega), Nat.add_sub_cancel_left]
        rw [hset] at r2 r3 r4
        unfold Oper.wp
        rw [r1, Oper.upon_value]
        exact hK _ _ _ _ _ (hs.put' o.dst hd r2 r3 r4) (hh.stp r3 (by simp)) hk
    · rw [if_neg (by rw [wantedF_sim hs hw]; simp)]
      exact hK _ _ _ _ _ (hs.put o.dst hd hs.inv (Stp.refl _ _ _) (.v _)) hh hk

theorem wpAny_of_H {Q : Tmps → List Box → Prop} {Q' : Exit → Act → World → Prop} (hQ : ∀ T N a w β, SimF E T (H0 ++ N) β a w → Q T N → Q' .normal a w) : ∀ (fuel : Nat) (listed : Array Bool) (T : Tmps) (N : List Box) (β : Pl) (a : Act) (w : World), SimF E T (H0 ++ N) β a w → Hol H0 n N β →
    wpAnyH P E md ops H0 n sp Q fuel listed T N → wpAny P md ops Q' fuel listed a w
  | 0, _, _, _, _, _, _, hw, _, h => ⟨h.1, hQ _ _ _ _ _ hw h.2⟩
  | fuel + 1, _, _, _, _, _, _, hw, hh, h => ⟨fun h0 => hQ _ _ _ _ _ hw (h.1 h0), fun i hi => wpOp_of_H hw hh (fun T N a w β hw' hh' hk => wpAny_of_H hQ fuel _ T N β a w hw' hh' hk) (h.2 i hi)⟩

def hole : Box := ⟨[], 0, 0, true⟩
theorem holes {T : Tmps} {H : List Box} {β : Pl} {a : Act} {w : World} (hs : SimF E T H β a w) : ∀ m, ∃ β', SimF E T (H ++ List.replicate m hole) β' a w ∧ ∀ i, i < m → β' (H.length + i) = none
  | 0 => ⟨β, by simpa using hs, fun i hi => by omega⟩
  | m + 1 => by
    obtain ⟨β', h1, h2⟩ := holes hs m
    obtain ⟨g1, g2⟩ := newv h1.inv 0 0 rfl
    have e : H ++ List.replicate m hole ++ [⟨[], 0, 0, true⟩] = H ++ List.replicate (m + 1) hole := by
      rw [List.replicate_succ', List.append_assoc]; rfl
    rw [e] at g1 g2
    have hlen : (H ++ List.replicate m hole).length = H.length + m := by simp
    refine ⟨_, ⟨h1.defers, h1.size, g1, h1.stp.trans g2, fun k => (h1.tmps k).stp g2⟩, fun i hi => ?_⟩
    rw [hlen]
    by_cases him : i = m
    · subst him; exact updn_same _ _
    · rw [updn_ne _ (by omega)]
      exact h2 i (by omega)

/-- One operation, on a list of slots. -/
def hone (P : Program) (E : Ent) (H0 : List Box) (n : Nat) (s : Sp) (o : Oper) (K : List (Nat × AV) → List Box → Prop) (N : List Box) (l : List (Nat × AV)) : Prop :=
  dstOk E o.dst ∧
  match s with
  | (.new k, _) => n ≤ k ∧ (match N[k]? with | some bx => bx.gen = 0 | none => False) ∧ match o.op with
    | .alloc t => match zeroCs P t with
      | some cs => K (put l o.dst (.ptr (H0.length + k) 1 0)) (N.set k ⟨cs, 0, 1, false⟩)
      | none => False
    | .buildSlice t len ps => match abuildSlice P (aeval l) t len ps, elemTy P t with
      | some .emp, some e => K (put l o.dst (.sl (H0.length + k) 0 0 0 (P.cellsOf e) false)) N
      | _, _ => False
    | _ => False
  | (.same, M) => match o.op with
    | .call { callee := .value f, args, .. } =>
      match aeval l f with
      | .fn fid caps => ∃ r, (∀ f', acall P E.base fid (args.toList.map (fun x => unlit (aeval l x)) ++ caps) (H0 ++ patch f' M N) (fun out H' => out = .ret r ∧ H' = H0 ++ patch f' M N)) ∧ K (put l o.dst r) N
      | _ => False
    | op => ∃ r, (∀ f, aop P o.type E.base (aeval l) (H0 ++ patch f M N) op = some (r, H0 ++ patch f M N)) ∧ K (put l o.dst r) N
  | (.wr k, M) => match o.op with
    | .call { callee := .value f, args, .. } =>
      match aeval l f with
      | .fn fid caps => ∃ r b, (∀ f', acall P E.base fid (args.toList.map (fun x => unlit (aeval l x)) ++ caps) (H0 ++ patch f' M N) (fun out H' => out = .ret r ∧ H' = H0 ++ (patch f' M N).set k b)) ∧ K (put l o.dst r) (N.set k b)
      | _ => False
    | op => ∃ r b, (∀ f, aop P o.type E.base (aeval l) (H0 ++ patch f M N) op = some (r, H0 ++ (patch f M N).set k b)) ∧ K (put l o.dst r) (N.set k b)
def hskip (E : Ent) (o : Oper) (K : List (Nat × AV) → List Box → Prop) (N : List Box) (l : List (Nat × AV)) : Prop := dstOk E o.dst ∧ K (put l o.dst (.v undef)) N
def hops (P : Program) (E : Ent) (ops : Array Oper) (H0 : List Box) (n : Nat) (Q : List (Nat × AV) → List Box → Prop) : List Oper → List Sp → List Box → List (Nat × AV) → Prop
  | [], _, N, l => Q l N
  | o :: rest, ss, N, l =>
    match o.guard with
    | none => hone P E H0 n (ss.headD (.same, [])) o (fun l N => hops P E ops H0 n Q rest ss.tail N l) N l
    | some (j, want) => match ayield ops l j with
      | some (some t) => Branch t want l (hone P E H0 n (ss.headD (.same, [])) o (fun l N => hops P E ops H0 n Q rest ss.tail N l) N) (hskip E o (fun l N => hops P E ops H0 n Q rest ss.tail N l) N)
      | some none => hskip E o (fun l N => hops P E ops H0 n Q rest ss.tail N l) N l
      | none => False

theorem hone_HY {s : Sp} {o : Oper} {K : List (Nat × AV) → List Box → Prop} {N : List Box} {l : List (Nat × AV)} (h : hone P E H0 n s o K N l) (hw : wantedF ops (lk l) o = some true) : ∃ r u, HY P E ops H0 n s N o r u (lk l) ∧ K (put l o.dst r) (seto N u) := by
  obtain ⟨hd, h⟩ := h
  obtain ⟨kd, M⟩ := s
  have hy : ∀ X Y r, (match o.op with
      | .call { callee := .value f, args, .. } => match aeval l f with
        | .fn fid caps => acall P E.base fid (args.toList.map (fun x => unlit (aeval l x)) ++ caps) X (fun out H' => out = .ret r ∧ H' = Y)
        | _ => False
      | op => aop P o.type E.base (aeval l) X op = some (r, Y)) → hyield P E X (lk l) o r Y := fun X Y r h => by
    unfold hyield
    split at h
    · rename_i f args ts ho
      split at h
      · rename_i fid caps hf
        exact ⟨fid, caps, by rw [feval_lk]; exact hf, by rw [feval_lk]; exact h⟩
      · exact h.elim
    · rename_i hno
      rw [feval_lk]; exact h
  cases kd with
  | same =>
    simp only at h
    split at h
    · rename_i f args ts ho
      split at h
      · rename_i fid caps hf
        obtain ⟨r, h1, h2⟩ := h
        refine ⟨r, none, ⟨hd, .inl ⟨hw, rfl, fun f' => hy _ _ _ ?_⟩⟩, h2⟩
        rw [ho]
        simp only [hf]
        exact h1 f'
      · exact h.elim
    · rename_i hno
      obtain ⟨r, h1, h2⟩ := h
      refine ⟨r, none, ⟨hd, .inl ⟨hw, rfl, fun f' => hy _ _ _ ?_⟩⟩, h2⟩
      split
      · rename_i f args ts ho
        exact absurd ho (hno f args ts)
      · exact h1 f'
  | wr k =>
    simp only at h
    split at h
    · rename_i f args ts ho
      split at h
      · rename_i fid caps hf
        obtain ⟨r, b, h1, h2⟩ := h
        refine ⟨r, some (k, b), ⟨hd, .inl ⟨hw, b, rfl, fun f' => hy _ _ _ ?_⟩⟩, h2⟩
        rw [ho]
        simp only [hf]
        exact h1 f'
      · exact h.elim
    · rename_i hno
      obtain ⟨r, b, h1, h2⟩ := h
      refine ⟨r, some (k, b), ⟨hd, .inl ⟨hw, b, rfl, fun f' => hy _ _ _ ?_⟩⟩, h2⟩
      split
      · rename_i f args ts ho
        exact absurd ho (hno f args ts)
      · exact h1 f'
  | new k =>
    simp only at h
    obtain ⟨h1, h2, h3⟩ := h
    split at h3
    · rename_i t ho
      split at h3
      · rename_i cs hz
        refine ⟨.ptr (H0.length + k) 1 0, some (k, ⟨cs, 0, 1, false⟩), ⟨hd, .inl ⟨hw, h1, ?_, .inl ⟨t, cs, ho, hz, rfl, rfl⟩⟩⟩, h3⟩
        split at h2
        · rename_i bx hb
          exact ⟨bx, hb, h2⟩
        · exact h2.elim
      · exact h3.elim
    · rename_i t len ps ho
      split at h3
      · rename_i e he hel
        refine ⟨.sl (H0.length + k) 0 0 0 (P.cellsOf e) false, none, ⟨hd, .inl ⟨hw, h1, ?_, .inr ⟨_, rfl, rfl, fun f' => hy _ _ _ ?_⟩⟩⟩, h3⟩
        · split at h2
          · rename_i bx hb
            exact ⟨bx, hb, h2⟩
          · exact h2.elim
        · rw [ho]
          have he' := abuildSlice_emp (A' := fun x => unlit (aeval l x)) he
          show (bif constParts ps then (aopU P o.type (fun x => unlit (aeval l x)) _ (.buildSlice t len ps)).map (relit E.base) else aopU P o.type (fun x => unlit (aeval l x)) _ (.buildSlice t len ps)) = _
          have hU : ∀ X, aopU P o.type (fun x => unlit (aeval l x)) X (.buildSlice t len ps) = some (.emp, X) := fun X => by
            show withH X (abuildSlice P _ t len ps) = _
            rw [he']; rfl
          rw [hU]
          cases constParts ps <;> rfl
      · exact h3.elim
    · exact h3.elim

theorem wpHQ_of_hops {Q : List (Nat × AV) → List Box → Prop} {Q' : Tmps → List Box → Prop} (hQ : ∀ l N, Q l N → Q' (lk l) N) : ∀ (os : List Oper) (ss : List Sp) (N : List Box) (l : List (Nat × AV)), hops P E ops H0 n Q os ss N l → wpHQ P E ops H0 n Q' os ss (lk l) N := by
  intro os
  induction os with
  | nil => intro ss N l h; exact hQ l N h
  | cons o rest ih =>
    intro ss N l h
    simp only [hops] at h
    split at h
    · rename_i hg
      obtain ⟨r, u, h1, h2⟩ := hone_HY (ops := ops) h (by simp [wantedF, hg])
      exact ⟨r, u, h1, by rw [fput_lk]; exact ih _ _ _ h2⟩
    · rename_i j want hg
      split at h
      · rename_i t hy
        by_cases ht : t = want
        · obtain ⟨r, u, h1, h2⟩ := hone_HY (ops := ops) (h.1 ht) (by
            have : yieldF ops (lk l) j = some (some t) := hy
            simp [wantedF, hg, this, ht])
          exact ⟨r, u, h1, by rw [fput_lk]; exact ih _ _ _ h2⟩
        · obtain ⟨h1, h2⟩ := h.2 ht
          have : yieldF ops (lk l) j = some (some t) := hy
          exact ⟨.v undef, none, ⟨h1, .inr ⟨by simp [wantedF, hg, this, ht], rfl, rfl⟩⟩, by rw [fput_lk]; exact ih _ _ _ h2⟩
      · rename_i hy
        obtain ⟨h1, h2⟩ := h
        have : yieldF ops (lk l) j = some none := hy
        exact ⟨.v undef, none, ⟨h1, .inr ⟨by simp [wantedF, hg, this], rfl, rfl⟩⟩, by rw [fput_lk]; exact ih _ _ _ h2⟩
      · exact h.elim

theorem AWP.drawH {Q : AExit → ASt → Prop} {id : Nat} {os : List Oper} {l : List (Nat × AV)} {N : List Box} (m : Nat) (sp : List Sp) (hm : P.follows .mixedOrders = true) (hB : holeB .any os.toArray sp = true)
    (h : hops P E os.toArray H0 N.length (fun l N => Q .normal ⟨l, H0 ++ N⟩) os sp (N ++ List.replicate m hole) l) :
    AWP P E (.region id os.toArray true) Q ⟨l, H0 ++ N⟩ := fun a w ⟨β, hs⟩ => by
  obtain ⟨i1, i2⟩ := still (w' := { w with drawn := w.drawn + 1 }) hs.inv (Wor.drawn w _) (fun _ _ _ => rfl)
  have hsf : SimF E (lk l) (H0 ++ N) β a { w with drawn := w.drawn + 1 } := ⟨hs.defers, hs.size, i1, hs.stp.trans i2, fun k => (hs.tmps k).stp i2⟩
  obtain ⟨β', hs', hh⟩ := holes hsf m
  rw [List.append_assoc] at hs'
  have inv0 : HeadInv .any os.toArray os.toArray.size (Array.replicate os.toArray.size false) :=
    ⟨by simp, fun j oj _ hl => (by rw [getD_replicate_false] at hl; cases hl), fun t h1 h2 => by omega⟩
  have hol : Hol H0 N.length (N ++ List.replicate m hole) β' := fun p bx hp hb _ => by
    have hlt := (List.getElem?_eq_some_iff.1 hb).1
    simp only [List.length_append, List.length_replicate] at hlt
    have := hh (p - N.length) (by omega)
    rw [List.length_append, show H0.length + N.length + (p - N.length) = H0.length + p by omega] at this
    exact this
  refine wp_region_any hm (wpAny_of_H (H0 := H0) (n := N.length) (sp := sp) (E := E) (Q := fun T N => ∃ l', T = lk l' ∧ Q .normal ⟨l', H0 ++ N⟩) (fun T N a w β hs h => ?_) _ _ _ _ β' _ _ hs' hol ?_)
  · obtain ⟨l', rfl, hq⟩ := h
    exact ⟨⟨l', H0 ++ N⟩, hq, β, ⟨hs.defers, hs.size, hs.inv, hs.stp, hs.tmps⟩⟩
  · have := wpAnyH_lex (P := P) (E := E) (H0 := H0) (n := N.length) (md := .any) (sp := sp) (Q := fun T N => ∃ l', T = lk l' ∧ Q .normal ⟨l', H0 ++ N⟩) os 0 (Array.replicate os.toArray.size false) (lk l) (N ++ List.replicate m hole) (by simp) inv0 (fun j _ => Nat.zero_le _) (by simpa [holeB] using hB) (wpHQ_of_hops (fun l N hq => ⟨l, rfl, hq⟩) _ _ _ _ h)
    simpa using this
theorem AWP.drawH_k {Q : AExit → ASt → Prop} {id : Nat} {os : List Oper} {l : List (Nat × AV)} {N : List Box} (m : Nat) (sp : List Sp) (hm : P.follows .mixedOrders = true) (hB : holeB .any os.toArray sp = true)
    (h : ∀ K : List (Nat × AV) → List Box → Prop, (∀ l N, Q .normal ⟨l, H0 ++ N⟩ → K l N) → hops P E os.toArray H0 N.length K os sp (N ++ List.replicate m hole) l) :
    AWP P E (.region id os.toArray true) Q ⟨l, H0 ++ N⟩ := AWP.drawH m sp hm hB (h _ fun _ _ h => h)
/-- The same where no box stands behind the caller's. -/
theorem AWP.drawH0_k {Q : AExit → ASt → Prop} {id : Nat} {os : List Oper} {l : List (Nat × AV)} (m : Nat) (sp : List Sp) (hm : P.follows .mixedOrders = true) (hB : holeB .any os.toArray sp = true)
    (h : ∀ K : List (Nat × AV) → List Box → Prop, (∀ l N, Q .normal ⟨l, H0 ++ N⟩ → K l N) → hops P E os.toArray H0 0 K os sp (List.replicate m hole) l) :
    AWP P E (.region id os.toArray true) Q ⟨l, H0⟩ := by
  have := AWP.drawH (H0 := H0) (N := []) (P := P) (E := E) (Q := Q) (id := id) (l := l) m sp hm hB (h _ fun _ _ h => h)
  rwa [List.append_nil] at this
theorem hops.step {K : List (Nat × AV) → List Box → Prop} {o : Oper} {rest : List Oper} {ss : List Sp} {N : List Box} {l : List (Nat × AV)}
    (h : ∀ T : List (Nat × AV) → List Box → Prop, (∀ l N, hops P E ops H0 n K rest ss.tail N l → T l N) → match o.guard with
      | none => hone P E H0 n (ss.headD (.same, [])) o T N l
      | some (j, want) => match ayield ops l j with
        | some (some t) => Branch t want l (hone P E H0 n (ss.headD (.same, [])) o T N) (hskip E o T N)
        | some none => hskip E o T N l
        | none => False) : hops P E ops H0 n K (o :: rest) ss N l := by
  simp only [hops]
  exact h _ fun _ _ h => h
theorem hops.nil {K : List (Nat × AV) → List Box → Prop} {ss : List Sp} {N : List Box} {l : List (Nat × AV)} (h : K l N) : hops P E ops H0 n K [] ss N l := h
end
end Go.Proofs.YtjkdahpoalnjjaaDoor.VL

/- The value logic, part 12b: what a walk of regions with kept places rewrites by; slices of strings. -/
set_option linter.unusedVariables false
set_option linter.unusedSimpArgs false
namespace Go.Proofs.YtjkdahpoalnjjaaDoor.VL
open Go Go.RowKit Go.Lib

theorem hcall.det {P : Program} {base : Nat} {f : FuncId} {args : List AV} {X : (Nat → Box) → List Box} {K : AV → Prop} {r : AV} (h : ∀ f', ASpec P f args (X f') (fun o H' => o = .ret r ∧ H' = X f')) (hK : K r) :
    ∃ r, (∀ f', acall P base f args (X f') (fun o H' => o = .ret r ∧ H' = X f')) ∧ K r := ⟨r, fun f' => h f' base, hK⟩

/-- Rows of strings. -/
abbrev strG (l : List (List UInt8)) : List (List AV) := l.map fun s => [AV.v (.string ⟨s.toArray⟩)]
@[go_sem] theorem strG_length (l : List (List UInt8)) : (strG l).length = l.length := by simp [strG]
@[go_sem] theorem strG_get (l : List (List UInt8)) (i : Nat) : (strG l)[i]? = (l[i]?).map fun s => [AV.v (.string ⟨s.toArray⟩)] := by simp [strG]
theorem lt_str {n : Nat} (l : List (List UInt8)) : Lt n (.lst 1 (strG l)) := .lst _ _ fun i j g c hi hj => by
  simp only [strG, List.getElem?_map] at hi
  obtain ⟨b, _, rfl⟩ := Option.map_eq_some_iff.1 hi
  cases j with
  | zero => simp at hj; subst hj; exact .v _
  | succ j => simp at hj

end Go.Proofs.YtjkdahpoalnjjaaDoor.VL

/- The value logic, part 14: rows of strings that grow; what is handed back and never looked at. -/
set_option linter.unusedVariables false
set_option linter.unusedSimpArgs false
namespace Go.Proofs.YtjkdahpoalnjjaaDoor.VL
open Go Go.RowKit Go.Lib

/-- An empty slice becomes one of a box of its own. -/
theorem Coe.emp {E : Ent} {l l' : List (Nat × AV)} {N : List Box} {t sz : Nat} (hl : lk l t = .emp) (h : Keeps ((t, .sl (E.H.length + N.length) 0 0 0 sz false) :: l) l') : Coe E ⟨l, E.H ++ N⟩ ⟨l', E.H ++ (N ++ [⟨[], 0, 0, true⟩])⟩ :=
  Coe.trans (σ' := ⟨(t, .sl (E.H.length + N.length) 0 0 0 sz false) :: l, E.H ++ (N ++ [⟨[], 0, 0, true⟩])⟩) (fun a w ⟨β, hs⟩ => by
    obtain ⟨h1, h2⟩ := newv hs.inv 0 0 rfl
    dsimp only at h1 h2
    rw [List.append_assoc] at h1 h2
    refine ⟨_, ⟨hs.defers, hs.size, h1, hs.stp.trans h2, fun k => ?_⟩⟩
    dsimp only
    rw [lk_cons]
    split
    · rename_i hk
      subst hk
      have := hs.tmps t
      dsimp only at this
      rw [hl] at this
      generalize a.tmps.getD t undef = v at this
      cases this with
      | emp a => exact rep_sl (bx := ⟨[], 0, 0, true⟩) (by rw [List.getElem?_append_right (by omega)]; simp) rfl ⟨a, 0, rfl, Nat.le_refl _, by simp, fun hh => absurd hh (by omega)⟩
    · exact (hs.tmps k).stp h2) (Coe.keep h)
theorem Coe.emp0 {E : Ent} {l l' : List (Nat × AV)} {t sz : Nat} (hl : lk l t = .emp) (h : Keeps ((t, .sl E.H.length 0 0 0 sz false) :: l) l') : Coe E ⟨l, E.H⟩ ⟨l', E.H ++ [⟨[], 0, 0, true⟩]⟩ := by
  have := Coe.emp (E := E) (l := l) (l' := l') (N := []) (t := t) (sz := sz) hl (by simpa using h)
  simpa using this

theorem Shed.weak {E : Ent} {r r' : AV} {H : List Box} (h : ∀ (w : World) (β : Pl) (v : Value), Rep w H β r v → Rep w H β r' v) : Shed E r H r' H := fun w β v hI hs hr => ⟨β, hI, hs, h w β v hr⟩
theorem rep_tup0 {w : World} {H : List Box} {β : Pl} {x : AV} {r : List AV} {v : Value} (h : Rep w H β (.tup (x :: r)) v) : Rep w H β (.tup (.dead :: r)) v := rep_tup_sw (fun x _ => .dead x) h
/-- The first of two results is never looked at. -/
theorem Fin.dead0 {E : Ent} {x : AV} {f : Value} {N : List Box} {K : AV → List Box → Prop} (h : K (.tup [.dead, .v f]) E.H) : Fin E (.tup [x, .v f]) (E.H ++ N) K :=
  ⟨_, _, Shed.trans (Shed.weak fun w β v hr => rep_tup0 hr) (Shed.cut (Lt.cons_tup (.dead) (Lt.cons_tup (.v _) .nil_tup))), h⟩
theorem Fin.dead00 {E : Ent} {x : AV} {f : Value} {K : AV → List Box → Prop} (h : K (.tup [.dead, .v f]) E.H) : Fin E (.tup [x, .v f]) E.H K :=
  ⟨_, _, Shed.weak fun w β v hr => rep_tup0 hr, h⟩

/-- A row of one's own among results, that is only read from now on. -/
theorem Fin.frozG {E : Ent} {N : List Box} {r r' : AV} {b g n sz : Nat} {full : Bool} {bx : Box} {G : List (List AV)} {K : AV → List Box → Prop} (hb : (E.H ++ N)[b]? = some bx) (hge : E.H.length ≤ b) (hg : bx.gen = g) (hfit : n * sz ≤ bx.cells.length) (hG : chunk sz n bx.cells = G)
    (hsw : ∀ (w : World) (H : List Box) (β : Pl) (v : Value), (∀ x, Rep w H β (.sl b g 0 n sz full) x → Rep w H β (.lst sz G) x) → Rep w H β r v → Rep w H β r' v) (hlt : Lt 0 r') (h : K r' E.H) : Fin E r (E.H ++ N) K :=
  ⟨r', E.H, fun w β v hI hs hr => by
    obtain ⟨h1, h2⟩ := freeze_inv hI hb (show 0 + n * sz ≤ bx.cells.length by omega)
    have hbl : b < (E.H ++ N).length := (List.getElem?_eq_some_iff.1 hb).1
    have hr' := hsw w _ β v (fun x hx => by
      have hv : Rep w _ β (.lst sz (chunk sz n (bx.cells.drop 0))) x := rep_view (bx := { bx with ro := max bx.ro (0 + n * sz) }) h1 (List.getElem?_set_self hbl) hg (Nat.le_max_right _ _) hx
      rwa [List.drop_zero, hG] at hv) (hr.stp h2)
    have hs' := hs.trans h2
    rw [List.set_append_right _ _ hge] at h1 hs' hr'
    obtain ⟨g1, g2, g3⟩ := cut_inv h1 hs' (fun i bx hi j c hj => E.inv.ltCells hi hj) (Nat.le_refl _)
    exact ⟨β, g1, g2, g3 _ _ (hlt.mono (Nat.zero_le _)) hr'⟩, h⟩

/-- Cells of strings. -/
def strC (l : List (List UInt8)) : List AV := l.map fun s => AV.v (.string ⟨s.toArray⟩)
@[go_sem] theorem flat_strG (l : List (List UInt8)) : flat (strG l) = strC l := by
  unfold flat strC strG
  induction l with
  | nil => rfl
  | cons a r ih => simp only [List.map_cons, List.flatten_cons, ih]; rfl
@[go_sem] theorem strC_length (l : List (List UInt8)) : (strC l).length = l.length := by simp [strC]
@[go_sem] theorem strC_snoc (l : List (List UInt8)) (s : List UInt8) : strC l ++ [AV.v (.string ⟨s.toArray⟩)] = strC (l ++ [s]) := by simp [strC]
@[go_sem] theorem strC_get (l : List (List UInt8)) (i : Nat) : (strC l)[i]? = (l[i]?).map fun s => AV.v (.string ⟨s.toArray⟩) := by simp [strC]
@[go_sem] theorem strC_drop (l : List (List UInt8)) (n : Nat) : (strC l).drop n = strC (l.drop n) := by simp [strC, List.map_drop]
theorem chunk_strC : ∀ (l : List (List UInt8)) (n : Nat), n = l.length → chunk 1 n (strC l) = strG l := by
  intro l
  induction l with
  | nil => intro n h; subst h; rfl
  | cons a r ih => intro n h; subst h; simp only [List.length_cons, chunk, strC, List.map_cons, List.take_succ_cons, List.take_zero, List.drop_succ_cons, List.drop_zero]; exact congrArg _ (ih r.length rfl)
theorem strC_lt (l : List (List UInt8)) (j : Nat) (c : AV) (h : (strC l)[j]? = some c) : Lt 0 c := by
  simp only [strC, List.getElem?_map] at h
  obtain ⟨b, _, rfl⟩ := Option.map_eq_some_iff.1 h
  exact .v _
theorem fin_strs {E : Ent} {N : List Box} {k g n ro : Nat} {L : List (List UInt8)} {full gr : Bool} {f : Value} {K : AV → List Box → Prop} (hb : N[k]? = some ⟨strC L, ro, g, gr⟩) (hn : n = L.length)
    (h : K (.tup [.lst 1 (strG L), .v f]) E.H) : Fin E (.tup [.sl (E.H.length + k) g 0 n 1 full, .v f]) (E.H ++ N) K :=
  Fin.frozG (bx := ⟨strC L, ro, g, gr⟩) (by rw [getH]; exact hb) (by omega) rfl (by dsimp only; rw [strC_length]; omega) (chunk_strC L n hn)
    (fun w H β v hsw hr => rep_tup_sw hsw hr) ((lt_str L).cons_tup ((Lt.v _).cons_tup .nil_tup)) h

/-! ### Operations one by one, where one has another rule -/
section
variable {P : Program} {E : Ent} {ops : Array Oper} {Q : AExit → ASt → Prop}
def SOps (P : Program) (E : Ent) (ops : Array Oper) (Q : AExit → ASt → Prop) (l : List Oper) (σ : ASt) : Prop := ∀ (a : Act) (w : World), Sim E σ a w → wpList P ops (lift E Q) l a w
theorem AWP.region_s {σ : ASt} {id : Nat} {l : List Oper} (h : ∀ Q' : AExit → ASt → Prop, (∀ e σ, Q e σ → Q' e σ) → SOps P E l.toArray Q' l σ) : AWP P E (.region id l.toArray false) Q σ := fun a w hs => wp_region_list (by simpa using h Q (fun _ _ h => h) a w hs)
theorem SOps.nil {σ : ASt} (h : Q .normal σ) : SOps P E ops Q [] σ := fun a w hs => ⟨σ, h, hs⟩
theorem SOps.step {o : Oper} {rest : List Oper} {σ : ASt}
    (h : ∀ T : ASt → Prop, (∀ σ, SOps P E ops Q rest σ → T σ) → match o.guard with
      | none => aone P E Q o T σ
      | some (j, want) => match ayield ops σ.tmps j with
        | some (some t) => Branch t want σ (aone P E Q o T) (askip E o T)
        | some none => askip E o T σ
        | none => False) : SOps P E ops Q (o :: rest) σ := fun a w hs => by
  have h := h _ fun σ h => h
  obtain ⟨β, hs⟩ := hs
  unfold wpList
  split at h
  · rename_i hg
    rw [if_pos (by simp [Region.wanted, hg])]
    exact .inl (aone_sound h hs fun σ' a' w' k s => k a' w' s)
  · rename_i j want hg
    split at h
    · rename_i t hy
      have hyy := yield_sim hs hy
      by_cases ht : t = want
      · rw [if_pos (by simp [Region.wanted, hg, hyy, ht])]
        exact .inl (aone_sound (h.1 ht) hs fun σ' a' w' k s => k a' w' s)
      · rw [if_neg (by simp [Region.wanted, hg, hyy, ht])]
        obtain ⟨h1, h2⟩ := h.2 ht
        exact h2 _ _ ⟨β, hs.put o.dst h1 hs.inv (Stp.refl _ _ _) (.v _)⟩
    · rename_i hy
      have hyy := yield_sim hs hy
      rw [if_neg (by simp [Region.wanted, hg, hyy])]
      obtain ⟨h1, h2⟩ := h
      exact h2 _ _ ⟨β, hs.put o.dst h1 hs.inv (Stp.refl _ _ _) (.v _)⟩
    · exact h.elim

/-- A new box, in a new block, whatever else the step marks. -/
theorem newb2 {base : Nat} {w w' : World} {H : List Box} {β : Pl} (hI : Inv base w H β) (hw : Wor w w') (keep : ∀ k x, k < w.heap.size → w'.cell? ⟨k, x, none⟩ = w.cell? ⟨k, x, none⟩) (hsz : w.heap.size < w'.heap.size) (bx : Box) (hro : bx.ro ≤ bx.cells.length)
    (hfree : ∀ x, bx.ro ≤ x → (bx.grow = true ∨ x < bx.cells.length) → w'.frozen? ⟨w.heap.size, x, none⟩ = false)
    (hcells : ∀ (j : Nat) (c : AV), bx.cells[j]? = some c → ∃ x, w'.cell? ⟨w.heap.size, j, none⟩ = some x ∧ x.oneCell' = true ∧ Rep w H β c x) :
    Inv base w' (H ++ [bx]) (upd β H.length (w.heap.size, 0)) ∧ Stp base w H β w' (H ++ [bx]) (upd β H.length (w.heap.size, 0)) := by
  have hget : ∀ i bx1, (H ++ [bx])[i]? = some bx1 → (i = H.length ∧ bx1 = bx) ∨ (i ≠ H.length ∧ H[i]? = some bx1) := by
    intro i bx1 h
    rcases Nat.lt_trichotomy i H.length with hi | hi | hi
    · rw [List.getElem?_append_left hi] at h
      exact .inr ⟨by omega, h⟩
    · subst hi
      rw [List.getElem?_append_right (Nat.le_refl _)] at h
      simp at h
      exact .inl ⟨rfl, h.symm⟩
    · rw [List.getElem?_append_right (by omega)] at h
      have : i - H.length ≠ 0 := by omega
      simp [this] at h
  have hlen : ∀ i bx1, H[i]? = some bx1 → i ≠ H.length := fun i bx1 h => by have := (List.getElem?_eq_some_iff.1 h).1; omega
  have hst : Stp base w H β w' (H ++ [bx]) (upd β H.length (w.heap.size, 0)) := by
    refine ⟨hw.os, hw.tape, hw.output, hw.size, hw.shape', hw.other, fun k x hk _ => keep k x hk, fun k x hk hwr => ?_, fun i bi hi => ?_⟩
    · obtain ⟨i, bi, s, h1, h2, h3, h4⟩ := hwr
      rcases hget i bi h1 with ⟨rfl, rfl⟩ | ⟨hi, h1⟩
      · rw [upd_same] at h2
        injection h2 with h2
        injection h2 with e1 e2
        omega
      · rw [upd_ne β _ hi] at h2
        exact ⟨i, bi, s, h1, h2, h3, h4⟩
    · exact ⟨bi, by rw [List.getElem?_append_left (List.getElem?_eq_some_iff.1 hi).1]; exact hi, Nat.le_refl _, fun _ => upd_ne β _ (hlen i bi hi)⟩
  refine ⟨⟨hI.bseS hst, fun i bi hi => ?_, fun i bi hi hv => ?_, fun i bi k s hi hl => ?_, fun i bi k s hi hl j c hj => ?_, fun k x hwr => ?_, fun i i' bi bi' k s s' x hne hi hi' hl hl' h1 h2 h3 => ?_⟩, hst⟩
  · rcases hget i bi hi with ⟨rfl, rfl⟩ | ⟨_, h⟩
    · exact hro
    · exact hI.ro i bi h
  · rcases hget i bi hi with ⟨rfl, rfl⟩ | ⟨hi', h⟩
    · rw [upd_same] at hv; cases hv
    · exact hI.virt i bi h (by rwa [upd_ne β _ hi'] at hv)
  · rcases hget i bi hi with ⟨rfl, rfl⟩ | ⟨hi', h⟩
    · rw [upd_same] at hl
      injection hl with hl
      injection hl with e1 e2
      subst e1
      exact ⟨hI.bse.le, hsz⟩
    · rw [upd_ne β _ hi'] at hl
      obtain ⟨h1, h2⟩ := hI.real i bi k s h hl
      exact ⟨h1, Nat.lt_of_lt_of_le h2 hw.size⟩
  · rcases hget i bi hi with ⟨rfl, rfl⟩ | ⟨hi', h⟩
    · rw [upd_same] at hl
      injection hl with hl
      injection hl with e1 e2
      subst e1; subst e2
      obtain ⟨x, g1, g0, g2⟩ := hcells j c hj
      exact ⟨x, by rw [Nat.zero_add]; exact g1, g0, g2.stp hst⟩
    · rw [upd_ne β _ hi'] at hl
      obtain ⟨x, g1, g0, g2⟩ := hI.cells i bi k s h hl j c hj
      exact ⟨x, by rw [keep k _ (hI.real i bi k s h hl).2]; exact g1, g0, g2.stp hst⟩
  · obtain ⟨i, bi, s, h1, h2, h3, h4⟩ := hwr
    rcases hget i bi h1 with ⟨rfl, rfl⟩ | ⟨hi', h⟩
    · rw [upd_same] at h2
      injection h2 with h2
      injection h2 with e1 e2
      subst e1; subst e2
      exact hfree x (by omega) (h4.imp id fun hh => by omega)
    · rw [upd_ne β _ hi'] at h2
      rw [hw.frozen (hI.real i bi k s h h2).2]
      exact hI.free k x ⟨i, bi, s, h, h2, h3, h4⟩
  · rcases hget i bi hi with ⟨rfl, rfl⟩ | ⟨hib, h⟩
    · rcases hget i' bi' hi' with ⟨rfl, rfl⟩ | ⟨hib', h'⟩
      · exact absurd rfl hne
      · rw [upd_same] at hl
        rw [upd_ne β _ hib'] at hl'
        injection hl with hl
        injection hl with e1 e2
        have hlt := (hI.real i' bi' _ s' h' hl').2
        omega
    · rw [upd_ne β _ hib] at hl
      rcases hget i' bi' hi' with ⟨rfl, rfl⟩ | ⟨hib', h'⟩
      · rw [upd_same] at hl'
        injection hl' with hl'
        injection hl' with e1 e2
        have hlt := (hI.real i bi _ s h hl).2
        omega
      · rw [upd_ne β _ hib'] at hl'
        exact hI.apart i i' bi bi' k s s' x hne h h' hl hl' h1 h2 h3

/-- A string's bytes, as a row of one's own. -/
theorem does_convOwn {base : Nat} {w : World} {H : List Box} {β : Pl} {ρ : Operand → Value} {o : Oper} (hI : Inv base w H β) {s d e : TypeId} {x : Operand} {u : TypeDesc} {b : ByteArray} (hx : ρ x = .string b) (ho : o.op = .convert s d x) (hs : P.underlying s = some u) (hd : P.underlying d = some (.slice e)) (he : P.underlying e = some (.int .u8)) :
    ∃ v w' β', (execOp ρ o).run P w = .ok (.value v) w' ∧ Inv base w' (H ++ [⟨bytesC b.data.toList, 0, 0, false⟩]) β' ∧ Stp base w H β w' (H ++ [⟨bytesC b.data.toList, 0, 0, false⟩]) β' ∧ Rep w' (H ++ [⟨bytesC b.data.toList, 0, 0, false⟩]) β' (.sl H.length 0 0 b.size 1 false) v := by
  have hrun := run_convert_string_bytes (P := P) w s d e b hs hd he
  have hk : ∀ k x, k < w.heap.size → (bytesWorld w e b).cell? ⟨k, x, none⟩ = w.cell? ⟨k, x, none⟩ := fun k x hk => bytesWorld_old w e b ⟨k, x, none⟩ hk
  have hw : Wor w (bytesWorld w e b) := ⟨rfl, rfl, rfl, by rw [bytesWorld_size]; omega, fun k c e' fr hh => ⟨c, by rw [bytesWorld_at_old w e b k (Array.getElem?_eq_some_iff.1 hh).1]; exact hh, rfl⟩, fun k o hh _ => by rw [bytesWorld_at_old w e b k (Array.getElem?_eq_some_iff.1 hh).1]; exact hh⟩
  have hnew := bytesWorld_at_new w e b
  have hlen : (bytesC b.data.toList).length = b.size := by rw [bytesC_length]; rfl
  obtain ⟨g1, g2⟩ := newb2 hI hw hk (by rw [bytesWorld_size]; omega) ⟨bytesC b.data.toList, 0, 0, false⟩ (Nat.zero_le _) (fun x _ hx => by
      have hx : x < b.size := by
        rcases hx with h | h
        · cases h
        · dsimp only at h; omega
      unfold World.frozen?
      dsimp only
      rw [hnew]
      have : b.size ≤ (bytesCells w e b).size := by simp [bytesCells]
      simp
      omega) (fun j c hj => by
      have hjl := (List.getElem?_eq_some_iff.1 hj).1
      refine ⟨_, bytesWorld_cell w e b j (by dsimp only at hjl; omega), rfl, ?_⟩
      simp only [bytesC, List.getElem?_map] at hj
      obtain ⟨y, hy, rfl⟩ := Option.map_eq_some_iff.1 hj
      rw [List.getD_eq_getElem?_getD, hy]
      exact .v _)
  refine ⟨.slice (some ⟨w.heap.size, 0, none⟩) b.size (grownCap w b.size 0 e), _, _, ?_, g1, g2, ?_⟩
  · simp only [execOp, ho, hx, Sem.run_bind, hrun, Result.andThen_ok, Sem.run_pure]
  · refine rep_sl (bx := ⟨bytesC b.data.toList, 0, 0, false⟩) (by simp) rfl ?_
    rw [upd_same]
    exact ⟨_, grownCap w b.size 0 e, rfl, Nat.le_add_right _ _, by simp, fun _ => ⟨w.heap.size, 0, _, _, _, rfl, rfl, hnew, by simp [bytesCells]; omega⟩⟩

theorem SOps.own {dst : Option Tmp} {s d : TypeId} {x : Operand} {ty : TypeId} {pos : String} {after : Array Edge} {rest : List Oper} {σ : ASt}
    (h : ∀ T : ASt → Prop, (∀ σ, SOps P E ops Q rest σ → T σ) → dstOk E dst ∧ match P.underlying s, P.underlying d, aeval σ.tmps x with
      | some _, some (.slice e), .v (.string b) => P.underlying e = some (.int .u8) ∧ T ⟨put σ.tmps dst (.sl σ.H.length 0 0 b.size 1 false), σ.H ++ [⟨bytesC b.data.toList, 0, 0, false⟩]⟩
      | _, _, _ => False) : SOps P E ops Q ({ dst := dst, op := .convert s d x, type := ty, pos := pos, after := after, guard := none } :: rest) σ := fun a w hs => by
  obtain ⟨hd, h⟩ := h _ fun σ h => h
  obtain ⟨β, hs⟩ := hs
  unfold wpList
  rw [if_pos (by simp [Region.wanted])]
  left
  split at h
  · rename_i u e b h1 h2 h3
    obtain ⟨h4, h⟩ := h
    have hx := hs.eval x
    rw [h3] at hx
    generalize hv : a.eval x = v at hx
    cases hx
    obtain ⟨v, w', β', r1, r2, r3, r4⟩ := does_convOwn (P := P) (o := { dst := dst, op := .convert s d x, type := ty, pos := pos, after := after, guard := none }) hs.inv hv rfl h1 h2 h4
    unfold Oper.wp
    rw [r1, Oper.upon_value]
    exact h _ _ ⟨β', hs.put dst hd r2 r3 r4⟩
  · exact h.elim
/-- A literal's row, as one of one's own. -/
def abuildO (P : Program) (A : Operand → AV) (t : TypeId) (len : Nat) (ps : Array (Nat × Operand)) : Option (Nat × List AV) :=
  match P.underlying t with
  | some (.slice e) =>
    if len ≠ 0 ∧ (zeroCs P e).isSome = true ∧ (P.underlying e).isSome = true ∧ len * P.cellsOf e ≤ 16777216 then
      (afill (fun i => some (i * P.cellsOf e, P.cellsOf e)) (List.replicate (len * P.cellsOf e) .dead) (parts A ps)).bind fun cs => if cs.all AV.one = true then some (P.cellsOf e, cs) else none
    else none
  | _ => none
attribute [go_sem] abuildO
theorem does_buildOwn {base : Nat} {w : World} {H : List Box} {β : Pl} {ρ : Operand → Value} {A : Operand → AV} {o : Oper} (hI : Inv base w H β) (hA : ∀ x, Rep w H β (A x) (ρ x)) {t : TypeId} {len : Nat} {ps : Array (Nat × Operand)} (ho : o.op = .buildSlice t len ps) {sz : Nat} {cs : List AV} (h : abuildO P A t len ps = some (sz, cs)) :
    ∃ v w' β', (execOp ρ o).run P w = .ok (.value v) w' ∧ Inv base w' (H ++ [⟨cs, 0, 0, true⟩]) β' ∧ Stp base w H β w' (H ++ [⟨cs, 0, 0, true⟩]) β' ∧ Rep w' (H ++ [⟨cs, 0, 0, true⟩]) β' (.sl H.length 0 0 len sz false) v := by
  unfold abuildO at h
  split at h
  · rename_i e hu
    split at h
    · rename_i hk
      obtain ⟨hl, hz, hk, hle⟩ := hk
      obtain ⟨z, hz⟩ := Option.isSome_iff_exists.1 hz
      obtain ⟨d, hd⟩ := Option.isSome_iff_exists.1 hk
      obtain ⟨out, h1, h⟩ := Option.bind_eq_some_iff.1 h
      have hone : out.all AV.one = true := Classical.byContradiction fun hh => by rw [if_neg hh] at h; cases h
      rw [if_pos hone] at h
      injection h with h
      injection h with e1 e2
      subst e1; subst e2
      obtain ⟨zv, h2, _, _⟩ := zero_run hz w
      obtain ⟨p1, p2⟩ := parts_rep hA ps
      have hlen := afill_length _ _ _ _ h1
      simp only [List.length_replicate] at hlen
      obtain ⟨zs, hzs⟩ : ∃ zs : Array Value, zs = if len * P.cellsOf e = 0 then #[] else zv.cells := ⟨_, rfl⟩
      obtain ⟨vs', r1, r2, r3⟩ := fill_rep (w := w) (H := H) (β := β) (fun i => some (i * P.cellsOf e, P.cellsOf e)) _ (parts A ps) ((Array.range (len * P.cellsOf e)).map (zs[· % zs.size]!)) (List.replicate (len * P.cellsOf e) .dead) out (by simp) (fun i d y hd hy => by
        simp [List.getElem?_replicate] at hd
        rw [← hd.2]
        exact .dead _) p1 p2 h1
      obtain ⟨g1, g2⟩ := newb hI vs' e ⟨out, 0, 0, true⟩ (Nat.zero_le _) (fun j c hj => by
        have hjl := (List.getElem?_eq_some_iff.1 hj).1
        have hrr := r3 j c _ hj (Array.getElem?_eq_getElem (show j < vs'.size by dsimp only at hjl; omega))
        exact ⟨vs'[j]'(by dsimp only at hjl; omega), Array.getElem?_eq_getElem _, hrr.one (List.all_eq_true.1 hone _ (List.mem_of_getElem? hj)), hrr⟩)
      refine ⟨.slice (some ⟨w.heap.size, 0, none⟩) len len, w.alloc (.cells vs' e), _, ?_, g1, g2, ?_⟩
      · have hle' : ¬ (len * P.cellsOf e > 2 ^ 24) := by omega
        simp only [execOp, ho, Instr.buildSlice, Sem.run_bind, run_underlying hu, Result.andThen_ok, run_sizeOf' hd, if_neg hle', Sem.run_ite]
        by_cases h0 : len * P.cellsOf e = 0
        · rw [if_pos h0] at hzs
          subst hzs
          simp only [if_pos h0, Sem.run_bind, Sem.run_pure, Result.andThen_ok]
          rw [r1]
          simp [alloc_run]
        · rw [if_neg h0] at hzs
          subst hzs
          simp only [if_neg h0, Sem.run_bind, h2, Sem.run_pure, Result.andThen_ok]
          rw [r1]
          simp [alloc_run]
      · refine rep_sl (bx := ⟨out, 0, 0, true⟩) (by simp) rfl ?_
        rw [upd_same]
        exact ⟨_, len, rfl, Nat.le_refl _, by simp, fun _ => ⟨w.heap.size, 0, vs', e, (0, 0), rfl, rfl, Array.getElem?_push_size, by omega⟩⟩
    · cases h
  · cases h
theorem SOps.ownB {dst : Option Tmp} {t : TypeId} {n : Nat} {ps : Array (Nat × Operand)} {ty : TypeId} {pos : String} {after : Array Edge} {rest : List Oper} {σ : ASt}
    (h : ∀ T : ASt → Prop, (∀ σ, SOps P E ops Q rest σ → T σ) → dstOk E dst ∧ match abuildO P (fun x => unlit (aeval σ.tmps x)) t n ps with
      | some (sz, cs) => T ⟨put σ.tmps dst (.sl σ.H.length 0 0 n sz false), σ.H ++ [⟨cs, 0, 0, true⟩]⟩
      | none => False) : SOps P E ops Q ({ dst := dst, op := .buildSlice t n ps, type := ty, pos := pos, after := after, guard := none } :: rest) σ := fun a w hs => by
  obtain ⟨hd, h⟩ := h _ fun σ h => h
  obtain ⟨β, hs⟩ := hs
  unfold wpList
  rw [if_pos (by simp [Region.wanted])]
  left
  split at h
  · rename_i sz cs h1
    obtain ⟨v, w', β', r1, r2, r3, r4⟩ := does_buildOwn (P := P) (o := { dst := dst, op := .buildSlice t n ps, type := ty, pos := pos, after := after, guard := none }) hs.inv (fun x => unlit_rep (hs.eval x)) rfl h1
    unfold Oper.wp
    rw [r1, Oper.upon_value]
    exact h _ _ ⟨β', hs.put dst hd r2 r3 r4⟩
  · exact h.elim
end

/-- A region whose operations from n on run one behind the other, behind all others. -/
theorem AWP.drawTn_k {P : Program} {E : Ent} {H : List Box} {Q : AExit → ASt → Prop} {id : Nat} {os : List Oper} {l : List (Nat × AV)} (n : Nat) (hm : P.follows .mixedOrders = true) (hB : Region.lexTailB .any os.toArray n = true)
    (h : ∀ Q' : AExit → ASt → Prop, (∀ e σ, Q e σ → Q' e σ) → qops P E os.toArray H (fun l => aops P E os.toArray Q' (os.drop n) ⟨l, H⟩) (os.take n) l) :
    AWP P E (.region id os.toArray true) Q ⟨l, H⟩ := AWP.drawT _ hm hB (h Q fun _ _ h => h)
/-- A function that changes one box, in a region that draws its order. -/
theorem hcall.wr {P : Program} {base : Nat} {f : FuncId} {args : List AV} {X : (Nat → Box) → List Box} {Y : Box → (Nat → Box) → List Box} {K : AV → Box → Prop} {r : AV} {b : Box} (h : ∀ f', ASpec P f args (X f') (fun o H' => o = .ret r ∧ H' = Y b f')) (hK : K r b) :
    ∃ r b, (∀ f', acall P base f args (X f') (fun o H' => o = .ret r ∧ H' = Y b f')) ∧ K r b := ⟨r, b, fun f' => h f' base, hK⟩

theorem hcall.wr0 {P : Program} {base : Nat} {f : FuncId} {args : List AV} {X : List Box} {Y : Box → List Box} {K : AV → Box → Prop} {r : AV} {b : Box} (h : ASpec P f args X (fun o H' => o = .ret r ∧ H' = Y b)) (hK : K r b) :
    ∃ r b, acall P base f args X (fun o H' => o = .ret r ∧ H' = Y b) ∧ K r b := ⟨r, b, h base, hK⟩

/-- A scope through which a run goes without a jump. -/
def AExit.noGoto (Q : AExit → ASt → Prop) : AExit → ASt → Prop
  | .goto _, _ => False
  | e, σ => Q e σ
theorem AWP.scope {P : Program} {E : Ent} {Q : AExit → ASt → Prop} {σ : ASt} {c : Code} (h : AWP P E c (AExit.noGoto Q) σ) : AWP P E (.scope c) Q σ := fun a w hs => by
  refine wp_scope_straight (wp_mono (h a w hs) fun e a' w' hl => ?_)
  cases e with
  | goto l => obtain ⟨σ', h1, _⟩ := hl; exact h1
  | normal => exact hl
  | exit id => exact hl
  | ret => exact hl
  | panic chain => exact hl
  | outgrown => exact hl
@[go_sem] theorem AExit.noGoto_normal {Q : AExit → ASt → Prop} {σ : ASt} : AExit.noGoto Q .normal σ = Q .normal σ := rfl
@[go_sem] theorem AExit.noGoto_exit {Q : AExit → ASt → Prop} {σ : ASt} {id : Nat} : AExit.noGoto Q (.exit id) σ = Q (.exit id) σ := rfl
@[go_sem] theorem AExit.noGoto_ret {Q : AExit → ASt → Prop} {σ : ASt} : AExit.noGoto Q .ret σ = Q .ret σ := rfl

/-- The last loop of a code, of those that stand in no other loop. -/
def lastLoop : Code → Option Code
  | .loop c => some c
  | .seq a b => match lastLoop b with
    | some c => some c
    | none => lastLoop a
  | .block _ c => lastLoop c
  | .scope c => lastLoop c
  | .cond _ a b => match lastLoop b with
    | some c => some c
    | none => lastLoop a
  | _ => none
/-- The first loop of a code. -/
def firstLoop : Code → Option Code
  | .loop c => some c
  | .seq a b => match firstLoop a with
    | some c => some c
    | none => firstLoop b
  | .block _ c => firstLoop c
  | .scope c => firstLoop c
  | .cond _ a b => match firstLoop a with
    | some c => some c
    | none => firstLoop b
  | _ => none

/-- Boxes behind the first are forgotten at a round's end. -/
theorem Coe.cutN {E : Ent} {l l' : List (Nat × AV)} {M N : List Box} (h : Keeps l l') (hlt : ∀ p ∈ l', Lt (E.H.length + M.length) p.2) (hc : ∀ bx ∈ M, ∀ c ∈ bx.cells, Lt (E.H.length + M.length) c) : Coe E ⟨l, E.H ++ (M ++ N)⟩ ⟨l', E.H ++ M⟩ := fun a w ⟨β, hs⟩ => by
  have hinv := hs.inv
  have hstp := hs.stp
  dsimp only at hinv hstp
  rw [← List.append_assoc] at hinv hstp
  have hlen : (E.H ++ M).length = E.H.length + M.length := List.length_append
  obtain ⟨g1, g2, g3⟩ := cut_inv hinv hstp (fun i bx hi j c hj => by
    by_cases hil : i < E.H.length
    · rw [List.getElem?_append_left hil] at hi
      exact (E.inv.ltCells hi hj).mono (by omega)
    · rw [List.getElem?_append_right (by omega)] at hi
      rw [hlen]
      exact hc bx (List.mem_of_getElem? hi) c (List.mem_of_getElem? hj)) (by omega)
  refine ⟨β, ⟨hs.defers, hs.size, g1, g2, fun k => ?_⟩⟩
  have hr := hs.tmps k
  dsimp only at hr
  rw [← List.append_assoc] at hr
  rcases lk_keep h k with hk | hk
  · dsimp only
    by_cases hdead : lk l' k = .dead
    · rw [hdead]; exact .dead _
    · have : ∃ p ∈ l', p.2 = lk l' k := by
        clear h hr hk hlt
        induction l' with
        | nil => exact absurd rfl hdead
        | cons q r ih =>
          obtain ⟨n, v⟩ := q
          simp only [lk_cons] at hdead ⊢
          by_cases hq : n = k
          · rw [if_pos hq]; exact ⟨(n, v), by simp, rfl⟩
          · rw [if_neg hq] at hdead ⊢
            obtain ⟨p, hp, e⟩ := ih hdead
            exact ⟨p, by simp [hp], e⟩
      obtain ⟨p, hp, e⟩ := this
      have hl := hlt p hp
      rw [e] at hl
      rw [hk] at hl ⊢
      exact g3 _ _ (by rw [hlen]; exact hl) hr
  · dsimp only
    rw [hk]; exact .dead _

end Go.Proofs.YtjkdahpoalnjjaaDoor.VL

/- The value logic: a walk as one lemma. -/
set_option linter.unusedVariables false
set_option linter.unusedSimpArgs false
namespace Go.Proofs.YtjkdahpoalnjjaaDoor.VL
open Go Go.RowKit Go.Lib

/-- What is left of a walk. -/
structure Leaf (L : Prop) : Prop where
  out : L
theorem wA {a b : Prop} (h : a) (h' : b) : a ∧ b := ⟨h, h'⟩
theorem wT : True := trivial
/-- Marks. -/
structure HolM (id m : Nat) (sp : List Sp) : Prop where
structure OwnM (id : Nat) : Prop where
structure OwnBM : Prop where
structure TlM : Prop where
structure DrM : Prop where
structure TnM (id n : Nat) : Prop where
section
variable {P : Program} {E : Ent}
theorem AWP.drawH_o {H0 : List Box} {Q : AExit → ASt → Prop} {id : Nat} {os : List Oper} {l : List (Nat × AV)} {N : List Box} {m : Nat} {sp : List Sp} (_ : HolM id m sp) (hm : P.follows .mixedOrders = true) (hB : holeB .any os.toArray sp = true)
    (h : ∀ K : List (Nat × AV) → List Box → Prop, (∀ l N, Q .normal ⟨l, H0 ++ N⟩ → K l N) → hops P E os.toArray H0 N.length K os sp (N ++ List.replicate m hole) l) :
    AWP P E (.region id os.toArray true) Q ⟨l, H0 ++ N⟩ := AWP.drawH_k m sp hm hB h
theorem AWP.drawH0_o {H0 : List Box} {Q : AExit → ASt → Prop} {id : Nat} {os : List Oper} {l : List (Nat × AV)} {m : Nat} {sp : List Sp} (_ : HolM id m sp) (hm : P.follows .mixedOrders = true) (hB : holeB .any os.toArray sp = true)
    (h : ∀ K : List (Nat × AV) → List Box → Prop, (∀ l N, Q .normal ⟨l, H0 ++ N⟩ → K l N) → hops P E os.toArray H0 0 K os sp (List.replicate m hole) l) :
    AWP P E (.region id os.toArray true) Q ⟨l, H0⟩ := AWP.drawH0_k m sp hm hB h
theorem AWP.region_o {Q : AExit → ASt → Prop} {σ : ASt} {id : Nat} {l : List Oper} (_ : OwnM id) (h : ∀ Q' : AExit → ASt → Prop, (∀ e σ, Q e σ → Q' e σ) → SOps P E l.toArray Q' l σ) : AWP P E (.region id l.toArray false) Q σ := AWP.region_s h
theorem SOps.ownBo {Q : AExit → ASt → Prop} {ops : Array Oper} {dst : Option Tmp} {t : TypeId} {n : Nat} {ps : Array (Nat × Operand)} {ty : TypeId} {pos : String} {after : Array Edge} {rest : List Oper} {σ : ASt} (_ : OwnBM)
    (h : ∀ T : ASt → Prop, (∀ σ, SOps P E ops Q rest σ → T σ) → dstOk E dst ∧ match abuildO P (fun x => unlit (aeval σ.tmps x)) t n ps with
      | some (sz, cs) => T ⟨put σ.tmps dst (.sl σ.H.length 0 0 n sz false), σ.H ++ [⟨cs, 0, 0, true⟩]⟩
      | none => False) : SOps P E ops Q ({ dst := dst, op := .buildSlice t n ps, type := ty, pos := pos, after := after, guard := none } :: rest) σ := SOps.ownB h
theorem AWP.draw_o {Q : AExit → ASt → Prop} {id : Nat} {os : List Oper} {l : List (Nat × AV)} {H : List Box} (_ : DrM) (hm : P.follows .mixedOrders = true) (hB : Region.lexB .any os.toArray = true)
    (h : ∀ K : List (Nat × AV) → Prop, (∀ l, Q .normal ⟨l, H⟩ → K l) → qops P E os.toArray H K os l) : AWP P E (.region id os.toArray true) Q ⟨l, H⟩ := AWP.draw_k hm hB h
theorem AWP.drawT_o {H : List Box} {Q : AExit → ASt → Prop} {id : Nat} {os : List Oper} {l : List (Nat × AV)} (_ : TlM) (hm : P.follows .mixedOrders = true) (hB : Region.lexTailB .any os.toArray (os.length - 1) = true)
    (h : ∀ Q' : AExit → ASt → Prop, (∀ e σ, Q e σ → Q' e σ) → qops P E os.toArray H (fun l => aops P E os.toArray Q' (os.drop (os.length - 1)) ⟨l, H⟩) (os.take (os.length - 1)) l) :
    AWP P E (.region id os.toArray true) Q ⟨l, H⟩ := AWP.drawT_k hm hB h
theorem AWP.drawTn_o {H : List Box} {Q : AExit → ASt → Prop} {id : Nat} {os : List Oper} {l : List (Nat × AV)} {n : Nat} (_ : TnM id n) (hm : P.follows .mixedOrders = true) (hB : Region.lexTailB .any os.toArray n = true)
    (h : ∀ Q' : AExit → ASt → Prop, (∀ e σ, Q e σ → Q' e σ) → qops P E os.toArray H (fun l => aops P E os.toArray Q' (os.drop n) ⟨l, H⟩) (os.take n) l) :
    AWP P E (.region id os.toArray true) Q ⟨l, H⟩ := AWP.drawTn_k n hm hB h
end

set_option maxRecDepth 100000
theorem wk {F S L G : Prop} (f : F) (s : S) (k : L) (h : F → S → Leaf L → G := by
  intro hF hS hK
  try simp only [number]
  repeat' (first
    | (with_reducible refine aops.step fun T hT => ?_; simp (disch := omega) only [go_sem, Nat.reduceBEq, Nat.reduceLT, Nat.reduceEqDiff, reduceIte, Nat.reduceAdd, Nat.reduceMul, Nat.reduceSub, Nat.reduceLeDiff, Int.reduceToNat, Int.reducePow, Int.reduceLT, Int.reduceEq, Int.reduceNeg, Nat.reducePow, List.reduceReplicate, Int.reduceLE, eq_self, Nat.le_refl, hF])
    | (with_reducible refine hT _ ?_; clear hT T)
    | (with_reducible refine aops.nil ?_)
    | (with_reducible refine qops.step fun T hT => ?_; simp (disch := omega) only [go_sem, Nat.reduceBEq, Nat.reduceLT, Nat.reduceEqDiff, reduceIte, Nat.reduceAdd, Nat.reduceMul, Nat.reduceSub, Nat.reduceLeDiff, Int.reduceToNat, Int.reducePow, Int.reduceLT, Int.reduceEq, Int.reduceNeg, Nat.reducePow, List.reduceReplicate, Int.reduceLE, eq_self, Nat.le_refl, hF])
    | (with_reducible refine qops.nil ?_)
    | (with_reducible refine hops.step fun T hT => ?_; simp (disch := omega) only [hone, hskip, patch, hole, List.headD_cons, List.tail_cons, Prod.mk.injEq, eq_self, and_assoc, exists_and_left, List.append_cancel_left_eq, List.cons.injEq, go_sem, Nat.reduceBEq, Nat.reduceLT, Nat.reduceEqDiff, reduceIte, Nat.reduceAdd, Nat.reduceMul, Nat.reduceSub, Nat.reduceLeDiff, Int.reduceToNat, Int.reducePow, Int.reduceLT, Int.reduceEq, Int.reduceNeg, Nat.reducePow, List.reduceReplicate, Int.reduceLE, eq_self, Nat.le_refl, hF])
    | (with_reducible refine hops.nil ?_)
    | (with_reducible refine hT _ _ ?_; clear hT T)
    | (with_reducible refine SOps.ownBo (by first | exact hS.1 | exact hS.2.1 | exact hS.2.2.1 | exact hS.2.2.2.1 | exact hS.2.2.2.2.1 | exact hS.2.2.2.2.2.1 | exact hS.2.2.2.2.2.2.1 | exact hS.2.2.2.2.2.2.2.1 | exact hS.2.2.2.2.2.2.2.2.1 | exact hS.2.2.2.2.2.2.2.2.2.1 | exact hS.2.2.2.2.2.2.2.2.2.2.1 | exact hS.2.2.2.2.2.2.2.2.2.2.2.1 | exact hS.2.2.2.2.2.2.2.2.2.2.2.2.1 | exact hS.2.2.2.2.2.2.2.2.2.2.2.2.2.1) fun T hT => ?_; simp (disch := omega) only [go_sem, Nat.reduceBEq, Nat.reduceLT, Nat.reduceEqDiff, reduceIte, Nat.reduceAdd, Nat.reduceMul, Nat.reduceSub, Nat.reduceLeDiff, Int.reduceToNat, Int.reducePow, Int.reduceLT, Int.reduceEq, Int.reduceNeg, Nat.reducePow, List.reduceReplicate, Int.reduceLE, eq_self, Nat.le_refl, hF])
    | (with_reducible refine SOps.own fun T hT => ?_; simp (disch := omega) only [go_sem, Nat.reduceBEq, Nat.reduceLT, Nat.reduceEqDiff, reduceIte, Nat.reduceAdd, Nat.reduceMul, Nat.reduceSub, Nat.reduceLeDiff, Int.reduceToNat, Int.reducePow, Int.reduceLT, Int.reduceEq, Int.reduceNeg, Nat.reducePow, List.reduceReplicate, Int.reduceLE, eq_self, Nat.le_refl, hF])
    | (with_reducible refine SOps.step fun T hT => ?_; simp (disch := omega) only [go_sem, Nat.reduceBEq, Nat.reduceLT, Nat.reduceEqDiff, reduceIte, Nat.reduceAdd, Nat.reduceMul, Nat.reduceSub, Nat.reduceLeDiff, Int.reduceToNat, Int.reducePow, Int.reduceLT, Int.reduceEq, Int.reduceNeg, Nat.reducePow, List.reduceReplicate, Int.reduceLE, eq_self, Nat.le_refl, hF])
    | (with_reducible refine SOps.nil ?_)
    | (with_reducible refine AWP.seq ?_)
    | (with_reducible refine AWP.block ?_)
    | (refine AWP.cond rfl (fun h => ?_) (fun h => ?_) <;> (try simp only [decide_eq_true_eq, decide_eq_false_iff_not, Bool.true_eq_false, Bool.false_eq_true] at h) <;> (try contradiction))
    | (refine AWP.region_o (by first | exact hS.1 | exact hS.2.1 | exact hS.2.2.1 | exact hS.2.2.2.1 | exact hS.2.2.2.2.1 | exact hS.2.2.2.2.2.1 | exact hS.2.2.2.2.2.2.1 | exact hS.2.2.2.2.2.2.2.1 | exact hS.2.2.2.2.2.2.2.2.1 | exact hS.2.2.2.2.2.2.2.2.2.1 | exact hS.2.2.2.2.2.2.2.2.2.2.1 | exact hS.2.2.2.2.2.2.2.2.2.2.2.1 | exact hS.2.2.2.2.2.2.2.2.2.2.2.2.1 | exact hS.2.2.2.2.2.2.2.2.2.2.2.2.2.1) fun Q' hQ' => ?_)
    | (refine AWP.drawH_o (by first | exact hS.1 | exact hS.2.1 | exact hS.2.2.1 | exact hS.2.2.2.1 | exact hS.2.2.2.2.1 | exact hS.2.2.2.2.2.1 | exact hS.2.2.2.2.2.2.1 | exact hS.2.2.2.2.2.2.2.1 | exact hS.2.2.2.2.2.2.2.2.1 | exact hS.2.2.2.2.2.2.2.2.2.1 | exact hS.2.2.2.2.2.2.2.2.2.2.1 | exact hS.2.2.2.2.2.2.2.2.2.2.2.1 | exact hS.2.2.2.2.2.2.2.2.2.2.2.2.1 | exact hS.2.2.2.2.2.2.2.2.2.2.2.2.2.1) rfl (by decide +kernel) fun Q' hQ' => ?_)
    | (refine AWP.drawH0_o (by first | exact hS.1 | exact hS.2.1 | exact hS.2.2.1 | exact hS.2.2.2.1 | exact hS.2.2.2.2.1 | exact hS.2.2.2.2.2.1 | exact hS.2.2.2.2.2.2.1 | exact hS.2.2.2.2.2.2.2.1 | exact hS.2.2.2.2.2.2.2.2.1 | exact hS.2.2.2.2.2.2.2.2.2.1 | exact hS.2.2.2.2.2.2.2.2.2.2.1 | exact hS.2.2.2.2.2.2.2.2.2.2.2.1 | exact hS.2.2.2.2.2.2.2.2.2.2.2.2.1 | exact hS.2.2.2.2.2.2.2.2.2.2.2.2.2.1) rfl (by decide +kernel) fun Q' hQ' => ?_)
    | (refine AWP.region_k fun Q' hQ' => ?_)
    | (refine AWP.drawT_o (by first | exact hS.1 | exact hS.2.1 | exact hS.2.2.1 | exact hS.2.2.2.1 | exact hS.2.2.2.2.1 | exact hS.2.2.2.2.2.1 | exact hS.2.2.2.2.2.2.1 | exact hS.2.2.2.2.2.2.2.1 | exact hS.2.2.2.2.2.2.2.2.1 | exact hS.2.2.2.2.2.2.2.2.2.1 | exact hS.2.2.2.2.2.2.2.2.2.2.1 | exact hS.2.2.2.2.2.2.2.2.2.2.2.1 | exact hS.2.2.2.2.2.2.2.2.2.2.2.2.1 | exact hS.2.2.2.2.2.2.2.2.2.2.2.2.2.1) rfl (by decide +kernel) fun Q' hQ' => ?_; try simp only [List.length_cons, List.length_nil, Nat.reduceAdd, Nat.reduceSub, List.take_succ_cons, List.take_zero, List.drop_succ_cons, List.drop_zero])
    | (refine AWP.drawTn_o (by first | exact hS.1 | exact hS.2.1 | exact hS.2.2.1 | exact hS.2.2.2.1 | exact hS.2.2.2.2.1 | exact hS.2.2.2.2.2.1 | exact hS.2.2.2.2.2.2.1 | exact hS.2.2.2.2.2.2.2.1 | exact hS.2.2.2.2.2.2.2.2.1 | exact hS.2.2.2.2.2.2.2.2.2.1 | exact hS.2.2.2.2.2.2.2.2.2.2.1 | exact hS.2.2.2.2.2.2.2.2.2.2.2.1 | exact hS.2.2.2.2.2.2.2.2.2.2.2.2.1 | exact hS.2.2.2.2.2.2.2.2.2.2.2.2.2.1) rfl (by decide +kernel) fun Q' hQ' => ?_; try simp only [List.length_cons, List.length_nil, Nat.reduceAdd, Nat.reduceSub, List.take_succ_cons, List.take_zero, List.drop_succ_cons, List.drop_zero])
    | (refine AWP.draw_o (by first | exact hS.1 | exact hS.2.1 | exact hS.2.2.1 | exact hS.2.2.2.1 | exact hS.2.2.2.2.1 | exact hS.2.2.2.2.2.1 | exact hS.2.2.2.2.2.2.1 | exact hS.2.2.2.2.2.2.2.1 | exact hS.2.2.2.2.2.2.2.2.1 | exact hS.2.2.2.2.2.2.2.2.2.1 | exact hS.2.2.2.2.2.2.2.2.2.2.1 | exact hS.2.2.2.2.2.2.2.2.2.2.2.1 | exact hS.2.2.2.2.2.2.2.2.2.2.2.2.1 | exact hS.2.2.2.2.2.2.2.2.2.2.2.2.2.1) rfl (by kernel_rfl) fun Q' hQ' => ?_)
    | (with_reducible refine AWP.skip ?_; try simp only [AExit.then, AExit.inBlock, AExit.noGoto, reduceIte, Nat.reduceEqDiff])
    | (with_reducible refine AWP.exit ?_; try simp only [AExit.then, AExit.inBlock, AExit.noGoto, reduceIte, Nat.reduceEqDiff])
    | (with_reducible refine AWP.ret ?_; try simp only [AExit.then, AExit.inBlock, AExit.noGoto, reduceIte, Nat.reduceEqDiff])
    | (with_reducible refine AWP.scope ?_)
    | (with_reducible refine AWP.label ?_; try simp only [AExit.then, AExit.inBlock, AExit.noGoto, reduceIte, Nat.reduceEqDiff])
    | (refine hQ' (AExit.panic _) _ ?_; clear hT T hQ' Q'; try simp only [AExit.then, AExit.inBlock, AExit.noGoto, reduceIte, Nat.reduceEqDiff])
    | (refine hQ' (AExit.panic _) _ ?_; clear hQ' Q'; try simp only [AExit.then, AExit.inBlock, AExit.noGoto, reduceIte, Nat.reduceEqDiff])
    | (refine hQ' _ _ ?_; clear hQ' Q'; try simp only [AExit.then, AExit.inBlock, AExit.noGoto, reduceIte, Nat.reduceEqDiff])
    | (refine hQ' _ ?_; clear hQ' Q'; try simp only [AExit.then, AExit.inBlock, AExit.noGoto, reduceIte, Nat.reduceEqDiff])
    | (with_reducible refine Branch.split (fun h => ?_) (fun h => ?_) <;> (try simp only [decide_eq_true_eq, decide_eq_false_iff_not, Bool.not_true, Bool.not_false, Bool.true_eq_false, Bool.false_eq_true] at h) <;> (try contradiction) <;> (simp (disch := omega) only [go_sem, Nat.reduceBEq, Nat.reduceLT, Nat.reduceEqDiff, reduceIte, Nat.reduceAdd, Nat.reduceMul, Nat.reduceSub, Nat.reduceLeDiff, Int.reduceToNat, Int.reducePow, Int.reduceLT, Int.reduceEq, Int.reduceNeg, Nat.reducePow, List.reduceReplicate, Int.reduceLE, eq_self, Nat.le_refl, h, hF]))
    | (with_reducible intro h; try simp only [h, go_sem, Nat.reduceBEq, Nat.reduceLT, Nat.reduceEqDiff, reduceIte, Nat.reduceAdd, Nat.reduceMul, Nat.reduceSub, Nat.reduceLeDiff, Int.reduceToNat, Int.reducePow, Int.reduceLT, Int.reduceEq, Int.reduceNeg, Nat.reducePow, List.reduceReplicate, Int.reduceLE, eq_self, Nat.le_refl, hF])
    | ((first
      | (with_reducible refine acall.det (hS.1 ..) ?_)
      | (with_reducible refine acall.det (hS.2.1 ..) ?_)
      | (with_reducible refine acall.det (hS.2.2.1 ..) ?_)
      | (with_reducible refine acall.det (hS.2.2.2.1 ..) ?_)
      | (with_reducible refine acall.det (hS.2.2.2.2.1 ..) ?_)
      | (with_reducible refine acall.det (hS.2.2.2.2.2.1 ..) ?_)
      | (with_reducible refine acall.det (hS.2.2.2.2.2.2.1 ..) ?_)
      | (with_reducible refine acall.det (hS.2.2.2.2.2.2.2.1 ..) ?_)
      | (with_reducible refine acall.det (hS.2.2.2.2.2.2.2.2.1 ..) ?_)
      | (with_reducible refine acall.det (hS.2.2.2.2.2.2.2.2.2.1 ..) ?_)
      | (with_reducible refine acall.det (hS.2.2.2.2.2.2.2.2.2.2.1 ..) ?_)
      | (with_reducible refine acall.det (hS.2.2.2.2.2.2.2.2.2.2.2.1 ..) ?_)
      | (with_reducible refine acall.det (hS.2.2.2.2.2.2.2.2.2.2.2.2.1 ..) ?_)
      | (with_reducible refine acall.det (hS.2.2.2.2.2.2.2.2.2.2.2.2.2.1 ..) ?_)
      | (with_reducible refine qcall.det (hS.1 ..) ?_)
      | (with_reducible refine qcall.det (hS.2.1 ..) ?_)
      | (with_reducible refine qcall.det (hS.2.2.1 ..) ?_)
      | (with_reducible refine qcall.det (hS.2.2.2.1 ..) ?_)
      | (with_reducible refine qcall.det (hS.2.2.2.2.1 ..) ?_)
      | (with_reducible refine qcall.det (hS.2.2.2.2.2.1 ..) ?_)
      | (with_reducible refine qcall.det (hS.2.2.2.2.2.2.1 ..) ?_)
      | (with_reducible refine qcall.det (hS.2.2.2.2.2.2.2.1 ..) ?_)
      | (with_reducible refine qcall.det (hS.2.2.2.2.2.2.2.2.1 ..) ?_)
      | (with_reducible refine qcall.det (hS.2.2.2.2.2.2.2.2.2.1 ..) ?_)
      | (with_reducible refine qcall.det (hS.2.2.2.2.2.2.2.2.2.2.1 ..) ?_)
      | (with_reducible refine qcall.det (hS.2.2.2.2.2.2.2.2.2.2.2.1 ..) ?_)
      | (with_reducible refine qcall.det (hS.2.2.2.2.2.2.2.2.2.2.2.2.1 ..) ?_)
      | (with_reducible refine qcall.det (hS.2.2.2.2.2.2.2.2.2.2.2.2.2.1 ..) ?_)
      | (with_reducible refine hcall.det (fun _ => hS.1 ..) ?_)
      | (with_reducible refine hcall.wr (fun _ => hS.1 ..) ?_)
      | (with_reducible refine hcall.wr0 (hS.1 ..) ?_)
      | (with_reducible refine hcall.det (fun _ => hS.2.1 ..) ?_)
      | (with_reducible refine hcall.wr (fun _ => hS.2.1 ..) ?_)
      | (with_reducible refine hcall.wr0 (hS.2.1 ..) ?_)
      | (with_reducible refine hcall.det (fun _ => hS.2.2.1 ..) ?_)
      | (with_reducible refine hcall.wr (fun _ => hS.2.2.1 ..) ?_)
      | (with_reducible refine hcall.wr0 (hS.2.2.1 ..) ?_)
      | (with_reducible refine hcall.det (fun _ => hS.2.2.2.1 ..) ?_)
      | (with_reducible refine hcall.wr (fun _ => hS.2.2.2.1 ..) ?_)
      | (with_reducible refine hcall.wr0 (hS.2.2.2.1 ..) ?_)
      | (with_reducible refine hcall.det (fun _ => hS.2.2.2.2.1 ..) ?_)
      | (with_reducible refine hcall.wr (fun _ => hS.2.2.2.2.1 ..) ?_)
      | (with_reducible refine hcall.wr0 (hS.2.2.2.2.1 ..) ?_)
      | (with_reducible refine hcall.det (fun _ => hS.2.2.2.2.2.1 ..) ?_)
      | (with_reducible refine hcall.wr (fun _ => hS.2.2.2.2.2.1 ..) ?_)
      | (with_reducible refine hcall.wr0 (hS.2.2.2.2.2.1 ..) ?_)
      | (with_reducible refine hcall.det (fun _ => hS.2.2.2.2.2.2.1 ..) ?_)
      | (with_reducible refine hcall.wr (fun _ => hS.2.2.2.2.2.2.1 ..) ?_)
      | (with_reducible refine hcall.wr0 (hS.2.2.2.2.2.2.1 ..) ?_)
      | (with_reducible refine hcall.det (fun _ => hS.2.2.2.2.2.2.2.1 ..) ?_)
      | (with_reducible refine hcall.wr (fun _ => hS.2.2.2.2.2.2.2.1 ..) ?_)
      | (with_reducible refine hcall.wr0 (hS.2.2.2.2.2.2.2.1 ..) ?_)
      | (with_reducible refine hcall.det (fun _ => hS.2.2.2.2.2.2.2.2.1 ..) ?_)
      | (with_reducible refine hcall.wr (fun _ => hS.2.2.2.2.2.2.2.2.1 ..) ?_)
      | (with_reducible refine hcall.wr0 (hS.2.2.2.2.2.2.2.2.1 ..) ?_)
      | (with_reducible refine hcall.det (fun _ => hS.2.2.2.2.2.2.2.2.2.1 ..) ?_)
      | (with_reducible refine hcall.wr (fun _ => hS.2.2.2.2.2.2.2.2.2.1 ..) ?_)
      | (with_reducible refine hcall.wr0 (hS.2.2.2.2.2.2.2.2.2.1 ..) ?_)
      | (with_reducible refine hcall.det (fun _ => hS.2.2.2.2.2.2.2.2.2.2.1 ..) ?_)
      | (with_reducible refine hcall.wr (fun _ => hS.2.2.2.2.2.2.2.2.2.2.1 ..) ?_)
      | (with_reducible refine hcall.wr0 (hS.2.2.2.2.2.2.2.2.2.2.1 ..) ?_)
      | (with_reducible refine hcall.det (fun _ => hS.2.2.2.2.2.2.2.2.2.2.2.1 ..) ?_)
      | (with_reducible refine hcall.wr (fun _ => hS.2.2.2.2.2.2.2.2.2.2.2.1 ..) ?_)
      | (with_reducible refine hcall.wr0 (hS.2.2.2.2.2.2.2.2.2.2.2.1 ..) ?_)
      | (with_reducible refine hcall.det (fun _ => hS.2.2.2.2.2.2.2.2.2.2.2.2.1 ..) ?_)
      | (with_reducible refine hcall.wr (fun _ => hS.2.2.2.2.2.2.2.2.2.2.2.2.1 ..) ?_)
      | (with_reducible refine hcall.wr0 (hS.2.2.2.2.2.2.2.2.2.2.2.2.1 ..) ?_)
      | (with_reducible refine hcall.det (fun _ => hS.2.2.2.2.2.2.2.2.2.2.2.2.2.1 ..) ?_)
      | (with_reducible refine hcall.wr (fun _ => hS.2.2.2.2.2.2.2.2.2.2.2.2.2.1 ..) ?_)
      | (with_reducible refine hcall.wr0 (hS.2.2.2.2.2.2.2.2.2.2.2.2.2.1 ..) ?_)); try simp (disch := omega) only [go_sem, Nat.reduceBEq, Nat.reduceLT, Nat.reduceEqDiff, reduceIte, Nat.reduceAdd, Nat.reduceMul, Nat.reduceSub, Nat.reduceLeDiff, Int.reduceToNat, Int.reducePow, Int.reduceLT, Int.reduceEq, Int.reduceNeg, Nat.reducePow, List.reduceReplicate, Int.reduceLE, eq_self, Nat.le_refl, hF]))
  exact hK.out) : G := h f s ⟨k⟩

theorem wkE {F S L G : Prop} (f : F) (s : S) (k : L) (h : F → S → Leaf L → G := by
  intro hF hS hK
  try simp only [number]
  repeat' (first
    | (with_reducible refine aops.step fun T hT => ?_; simp (disch := omega) only [go_sem, Nat.reduceBEq, Nat.reduceLT, Nat.reduceEqDiff, reduceIte, Nat.reduceAdd, Nat.reduceMul, Nat.reduceSub, Nat.reduceLeDiff, Int.reduceToNat, Int.reducePow, Int.reduceLT, Int.reduceEq, Int.reduceNeg, Nat.reducePow, List.reduceReplicate, Int.reduceLE, eq_self, Nat.le_refl, hF])
    | (with_reducible refine hT _ ?_; clear hT T)
    | (with_reducible refine aops.nil ?_)
    | (with_reducible refine qops.step fun T hT => ?_; simp (disch := omega) only [go_sem, Nat.reduceBEq, Nat.reduceLT, Nat.reduceEqDiff, reduceIte, Nat.reduceAdd, Nat.reduceMul, Nat.reduceSub, Nat.reduceLeDiff, Int.reduceToNat, Int.reducePow, Int.reduceLT, Int.reduceEq, Int.reduceNeg, Nat.reducePow, List.reduceReplicate, Int.reduceLE, eq_self, Nat.le_refl, hF])
    | (with_reducible refine qops.nil ?_)
    | (with_reducible refine hops.step fun T hT => ?_; simp (disch := omega) only [hone, hskip, patch, hole, List.headD_cons, List.tail_cons, Prod.mk.injEq, eq_self, and_assoc, exists_and_left, List.append_cancel_left_eq, List.cons.injEq, go_sem, Nat.reduceBEq, Nat.reduceLT, Nat.reduceEqDiff, reduceIte, Nat.reduceAdd, Nat.reduceMul, Nat.reduceSub, Nat.reduceLeDiff, Int.reduceToNat, Int.reducePow, Int.reduceLT, Int.reduceEq, Int.reduceNeg, Nat.reducePow, List.reduceReplicate, Int.reduceLE, eq_self, Nat.le_refl, hF])
    | (with_reducible refine hops.nil ?_)
    | (with_reducible refine hT _ _ ?_; clear hT T)
    | (with_reducible refine SOps.ownBo (by first | exact hS.1 | exact hS.2.1 | exact hS.2.2.1 | exact hS.2.2.2.1 | exact hS.2.2.2.2.1 | exact hS.2.2.2.2.2.1 | exact hS.2.2.2.2.2.2.1 | exact hS.2.2.2.2.2.2.2.1 | exact hS.2.2.2.2.2.2.2.2.1 | exact hS.2.2.2.2.2.2.2.2.2.1 | exact hS.2.2.2.2.2.2.2.2.2.2.1 | exact hS.2.2.2.2.2.2.2.2.2.2.2.1 | exact hS.2.2.2.2.2.2.2.2.2.2.2.2.1 | exact hS.2.2.2.2.2.2.2.2.2.2.2.2.2.1) fun T hT => ?_; simp (disch := omega) only [go_sem, Nat.reduceBEq, Nat.reduceLT, Nat.reduceEqDiff, reduceIte, Nat.reduceAdd, Nat.reduceMul, Nat.reduceSub, Nat.reduceLeDiff, Int.reduceToNat, Int.reducePow, Int.reduceLT, Int.reduceEq, Int.reduceNeg, Nat.reducePow, List.reduceReplicate, Int.reduceLE, eq_self, Nat.le_refl, hF])
    | (with_reducible refine SOps.own fun T hT => ?_; simp (disch := omega) only [go_sem, Nat.reduceBEq, Nat.reduceLT, Nat.reduceEqDiff, reduceIte, Nat.reduceAdd, Nat.reduceMul, Nat.reduceSub, Nat.reduceLeDiff, Int.reduceToNat, Int.reducePow, Int.reduceLT, Int.reduceEq, Int.reduceNeg, Nat.reducePow, List.reduceReplicate, Int.reduceLE, eq_self, Nat.le_refl, hF])
    | (with_reducible refine SOps.step fun T hT => ?_; simp (disch := omega) only [go_sem, Nat.reduceBEq, Nat.reduceLT, Nat.reduceEqDiff, reduceIte, Nat.reduceAdd, Nat.reduceMul, Nat.reduceSub, Nat.reduceLeDiff, Int.reduceToNat, Int.reducePow, Int.reduceLT, Int.reduceEq, Int.reduceNeg, Nat.reducePow, List.reduceReplicate, Int.reduceLE, eq_self, Nat.le_refl, hF])
    | (with_reducible refine SOps.nil ?_)
    | (with_reducible refine AWP.seq ?_)
    | (with_reducible refine AWP.block ?_)
    | (refine AWP.cond rfl (fun h => ?_) (fun h => ?_) <;> (try simp only [decide_eq_true_eq, decide_eq_false_iff_not, Bool.true_eq_false, Bool.false_eq_true] at h) <;> (try contradiction))
    | (refine AWP.region_o (by first | exact hS.1 | exact hS.2.1 | exact hS.2.2.1 | exact hS.2.2.2.1 | exact hS.2.2.2.2.1 | exact hS.2.2.2.2.2.1 | exact hS.2.2.2.2.2.2.1 | exact hS.2.2.2.2.2.2.2.1 | exact hS.2.2.2.2.2.2.2.2.1 | exact hS.2.2.2.2.2.2.2.2.2.1 | exact hS.2.2.2.2.2.2.2.2.2.2.1 | exact hS.2.2.2.2.2.2.2.2.2.2.2.1 | exact hS.2.2.2.2.2.2.2.2.2.2.2.2.1 | exact hS.2.2.2.2.2.2.2.2.2.2.2.2.2.1) fun Q' hQ' => ?_)
    | (refine AWP.drawH_o (by first | exact hS.1 | exact hS.2.1 | exact hS.2.2.1 | exact hS.2.2.2.1 | exact hS.2.2.2.2.1 | exact hS.2.2.2.2.2.1 | exact hS.2.2.2.2.2.2.1 | exact hS.2.2.2.2.2.2.2.1 | exact hS.2.2.2.2.2.2.2.2.1 | exact hS.2.2.2.2.2.2.2.2.2.1 | exact hS.2.2.2.2.2.2.2.2.2.2.1 | exact hS.2.2.2.2.2.2.2.2.2.2.2.1 | exact hS.2.2.2.2.2.2.2.2.2.2.2.2.1 | exact hS.2.2.2.2.2.2.2.2.2.2.2.2.2.1) rfl (by decide +kernel) fun Q' hQ' => ?_)
    | (refine AWP.drawH0_o (by first | exact hS.1 | exact hS.2.1 | exact hS.2.2.1 | exact hS.2.2.2.1 | exact hS.2.2.2.2.1 | exact hS.2.2.2.2.2.1 | exact hS.2.2.2.2.2.2.1 | exact hS.2.2.2.2.2.2.2.1 | exact hS.2.2.2.2.2.2.2.2.1 | exact hS.2.2.2.2.2.2.2.2.2.1 | exact hS.2.2.2.2.2.2.2.2.2.2.1 | exact hS.2.2.2.2.2.2.2.2.2.2.2.1 | exact hS.2.2.2.2.2.2.2.2.2.2.2.2.1 | exact hS.2.2.2.2.2.2.2.2.2.2.2.2.2.1) rfl (by decide +kernel) fun Q' hQ' => ?_)
    | (refine AWP.region_k fun Q' hQ' => ?_)
    | (refine AWP.drawT_o (by first | exact hS.1 | exact hS.2.1 | exact hS.2.2.1 | exact hS.2.2.2.1 | exact hS.2.2.2.2.1 | exact hS.2.2.2.2.2.1 | exact hS.2.2.2.2.2.2.1 | exact hS.2.2.2.2.2.2.2.1 | exact hS.2.2.2.2.2.2.2.2.1 | exact hS.2.2.2.2.2.2.2.2.2.1 | exact hS.2.2.2.2.2.2.2.2.2.2.1 | exact hS.2.2.2.2.2.2.2.2.2.2.2.1 | exact hS.2.2.2.2.2.2.2.2.2.2.2.2.1 | exact hS.2.2.2.2.2.2.2.2.2.2.2.2.2.1) rfl (by decide +kernel) fun Q' hQ' => ?_; try simp only [List.length_cons, List.length_nil, Nat.reduceAdd, Nat.reduceSub, List.take_succ_cons, List.take_zero, List.drop_succ_cons, List.drop_zero])
    | (refine AWP.drawTn_o (by first | exact hS.1 | exact hS.2.1 | exact hS.2.2.1 | exact hS.2.2.2.1 | exact hS.2.2.2.2.1 | exact hS.2.2.2.2.2.1 | exact hS.2.2.2.2.2.2.1 | exact hS.2.2.2.2.2.2.2.1 | exact hS.2.2.2.2.2.2.2.2.1 | exact hS.2.2.2.2.2.2.2.2.2.1 | exact hS.2.2.2.2.2.2.2.2.2.2.1 | exact hS.2.2.2.2.2.2.2.2.2.2.2.1 | exact hS.2.2.2.2.2.2.2.2.2.2.2.2.1 | exact hS.2.2.2.2.2.2.2.2.2.2.2.2.2.1) rfl (by decide +kernel) fun Q' hQ' => ?_; try simp only [List.length_cons, List.length_nil, Nat.reduceAdd, Nat.reduceSub, List.take_succ_cons, List.take_zero, List.drop_succ_cons, List.drop_zero])
    | (refine AWP.draw_o (by first | exact hS.1 | exact hS.2.1 | exact hS.2.2.1 | exact hS.2.2.2.1 | exact hS.2.2.2.2.1 | exact hS.2.2.2.2.2.1 | exact hS.2.2.2.2.2.2.1 | exact hS.2.2.2.2.2.2.2.1 | exact hS.2.2.2.2.2.2.2.2.1 | exact hS.2.2.2.2.2.2.2.2.2.1 | exact hS.2.2.2.2.2.2.2.2.2.2.1 | exact hS.2.2.2.2.2.2.2.2.2.2.2.1 | exact hS.2.2.2.2.2.2.2.2.2.2.2.2.1 | exact hS.2.2.2.2.2.2.2.2.2.2.2.2.2.1) rfl (by kernel_rfl) fun Q' hQ' => ?_)
    | (with_reducible refine AWP.skip ?_; try simp only [AExit.then, AExit.inBlock, AExit.noGoto, reduceIte, Nat.reduceEqDiff])
    | (with_reducible refine AWP.exit ?_; try simp only [AExit.then, AExit.inBlock, AExit.noGoto, reduceIte, Nat.reduceEqDiff])
    | (with_reducible refine AWP.ret ?_; try simp only [AExit.then, AExit.inBlock, AExit.noGoto, reduceIte, Nat.reduceEqDiff])
    | (with_reducible refine AWP.scope ?_)
    | (with_reducible refine AWP.label ?_; try simp only [AExit.then, AExit.inBlock, AExit.noGoto, reduceIte, Nat.reduceEqDiff])
    | (refine hQ' (AExit.panic _) _ ?_; clear hT T hQ' Q'; try simp only [AExit.then, AExit.inBlock, AExit.noGoto, reduceIte, Nat.reduceEqDiff])
    | (refine hQ' (AExit.panic _) _ ?_; clear hQ' Q'; try simp only [AExit.then, AExit.inBlock, AExit.noGoto, reduceIte, Nat.reduceEqDiff])
    | (refine hQ' _ _ ?_; clear hQ' Q'; try simp only [AExit.then, AExit.inBlock, AExit.noGoto, reduceIte, Nat.reduceEqDiff])
    | (refine hQ' _ ?_; clear hQ' Q'; try simp only [AExit.then, AExit.inBlock, AExit.noGoto, reduceIte, Nat.reduceEqDiff])
    | (with_reducible refine Branch.split (fun h => ?_) (fun h => ?_) <;> (try simp only [decide_eq_true_eq, decide_eq_false_iff_not, Bool.not_true, Bool.not_false, Bool.true_eq_false, Bool.false_eq_true] at h) <;> (try contradiction) <;> (simp (disch := omega) only [go_sem, Nat.reduceBEq, Nat.reduceLT, Nat.reduceEqDiff, reduceIte, Nat.reduceAdd, Nat.reduceMul, Nat.reduceSub, Nat.reduceLeDiff, Int.reduceToNat, Int.reducePow, Int.reduceLT, Int.reduceEq, Int.reduceNeg, Nat.reducePow, List.reduceReplicate, Int.reduceLE, eq_self, Nat.le_refl, h, hF]))
    | (with_reducible intro h; try simp only [h, go_sem, Nat.reduceBEq, Nat.reduceLT, Nat.reduceEqDiff, reduceIte, Nat.reduceAdd, Nat.reduceMul, Nat.reduceSub, Nat.reduceLeDiff, Int.reduceToNat, Int.reducePow, Int.reduceLT, Int.reduceEq, Int.reduceNeg, Nat.reducePow, List.reduceReplicate, Int.reduceLE, eq_self, Nat.le_refl, hF])
    | ((first
      | (with_reducible refine acall.det (hS.1 ..) ?_)
      | (with_reducible refine acall.det (hS.2.1 ..) ?_)
      | (with_reducible refine acall.det (hS.2.2.1 ..) ?_)
      | (with_reducible refine acall.det (hS.2.2.2.1 ..) ?_)
      | (with_reducible refine acall.det (hS.2.2.2.2.1 ..) ?_)
      | (with_reducible refine acall.det (hS.2.2.2.2.2.1 ..) ?_)
      | (with_reducible refine acall.det (hS.2.2.2.2.2.2.1 ..) ?_)
      | (with_reducible refine acall.det (hS.2.2.2.2.2.2.2.1 ..) ?_)
      | (with_reducible refine acall.det (hS.2.2.2.2.2.2.2.2.1 ..) ?_)
      | (with_reducible refine acall.det (hS.2.2.2.2.2.2.2.2.2.1 ..) ?_)
      | (with_reducible refine acall.det (hS.2.2.2.2.2.2.2.2.2.2.1 ..) ?_)
      | (with_reducible refine acall.det (hS.2.2.2.2.2.2.2.2.2.2.2.1 ..) ?_)
      | (with_reducible refine acall.det (hS.2.2.2.2.2.2.2.2.2.2.2.2.1 ..) ?_)
      | (with_reducible refine acall.det (hS.2.2.2.2.2.2.2.2.2.2.2.2.2.1 ..) ?_)
      | (with_reducible refine qcall.det (hS.1 ..) ?_)
      | (with_reducible refine qcall.det (hS.2.1 ..) ?_)
      | (with_reducible refine qcall.det (hS.2.2.1 ..) ?_)
      | (with_reducible refine qcall.det (hS.2.2.2.1 ..) ?_)
      | (with_reducible refine qcall.det (hS.2.2.2.2.1 ..) ?_)
      | (with_reducible refine qcall.det (hS.2.2.2.2.2.1 ..) ?_)
      | (with_reducible refine qcall.det (hS.2.2.2.2.2.2.1 ..) ?_)
      | (with_reducible refine qcall.det (hS.2.2.2.2.2.2.2.1 ..) ?_)
      | (with_reducible refine qcall.det (hS.2.2.2.2.2.2.2.2.1 ..) ?_)
      | (with_reducible refine qcall.det (hS.2.2.2.2.2.2.2.2.2.1 ..) ?_)
      | (with_reducible refine qcall.det (hS.2.2.2.2.2.2.2.2.2.2.1 ..) ?_)
      | (with_reducible refine qcall.det (hS.2.2.2.2.2.2.2.2.2.2.2.1 ..) ?_)
      | (with_reducible refine qcall.det (hS.2.2.2.2.2.2.2.2.2.2.2.2.1 ..) ?_)
      | (with_reducible refine qcall.det (hS.2.2.2.2.2.2.2.2.2.2.2.2.2.1 ..) ?_)
      | (with_reducible refine hcall.det (fun _ => hS.1 ..) ?_)
      | (with_reducible refine hcall.wr (fun _ => hS.1 ..) ?_)
      | (with_reducible refine hcall.wr0 (hS.1 ..) ?_)
      | (with_reducible refine hcall.det (fun _ => hS.2.1 ..) ?_)
      | (with_reducible refine hcall.wr (fun _ => hS.2.1 ..) ?_)
      | (with_reducible refine hcall.wr0 (hS.2.1 ..) ?_)
      | (with_reducible refine hcall.det (fun _ => hS.2.2.1 ..) ?_)
      | (with_reducible refine hcall.wr (fun _ => hS.2.2.1 ..) ?_)
      | (with_reducible refine hcall.wr0 (hS.2.2.1 ..) ?_)
      | (with_reducible refine hcall.det (fun _ => hS.2.2.2.1 ..) ?_)
      | (with_reducible refine hcall.wr (fun _ => hS.2.2.2.1 ..) ?_)
      | (with_reducible refine hcall.wr0 (hS.2.2.2.1 ..) ?_)
      | (with_reducible refine hcall.det (fun _ => hS.2.2.2.2.1 ..) ?_)
      | (with_reducible refine hcall.wr (fun _ => hS.2.2.2.2.1 ..) ?_)
      | (with_reducible refine hcall.wr0 (hS.2.2.2.2.1 ..) ?_)
      | (with_reducible refine hcall.det (fun _ => hS.2.2.2.2.2.1 ..) ?_)
      | (with_reducible refine hcall.wr (fun _ => hS.2.2.2.2.2.1 ..) ?_)
      | (with_reducible refine hcall.wr0 (hS.2.2.2.2.2.1 ..) ?_)
      | (with_reducible refine hcall.det (fun _ => hS.2.2.2.2.2.2.1 ..) ?_)
      | (with_reducible refine hcall.wr (fun _ => hS.2.2.2.2.2.2.1 ..) ?_)
      | (with_reducible refine hcall.wr0 (hS.2.2.2.2.2.2.1 ..) ?_)
      | (with_reducible refine hcall.det (fun _ => hS.2.2.2.2.2.2.2.1 ..) ?_)
      | (with_reducible refine hcall.wr (fun _ => hS.2.2.2.2.2.2.2.1 ..) ?_)
      | (with_reducible refine hcall.wr0 (hS.2.2.2.2.2.2.2.1 ..) ?_)
      | (with_reducible refine hcall.det (fun _ => hS.2.2.2.2.2.2.2.2.1 ..) ?_)
      | (with_reducible refine hcall.wr (fun _ => hS.2.2.2.2.2.2.2.2.1 ..) ?_)
      | (with_reducible refine hcall.wr0 (hS.2.2.2.2.2.2.2.2.1 ..) ?_)
      | (with_reducible refine hcall.det (fun _ => hS.2.2.2.2.2.2.2.2.2.1 ..) ?_)
      | (with_reducible refine hcall.wr (fun _ => hS.2.2.2.2.2.2.2.2.2.1 ..) ?_)
      | (with_reducible refine hcall.wr0 (hS.2.2.2.2.2.2.2.2.2.1 ..) ?_)
      | (with_reducible refine hcall.det (fun _ => hS.2.2.2.2.2.2.2.2.2.2.1 ..) ?_)
      | (with_reducible refine hcall.wr (fun _ => hS.2.2.2.2.2.2.2.2.2.2.1 ..) ?_)
      | (with_reducible refine hcall.wr0 (hS.2.2.2.2.2.2.2.2.2.2.1 ..) ?_)
      | (with_reducible refine hcall.det (fun _ => hS.2.2.2.2.2.2.2.2.2.2.2.1 ..) ?_)
      | (with_reducible refine hcall.wr (fun _ => hS.2.2.2.2.2.2.2.2.2.2.2.1 ..) ?_)
      | (with_reducible refine hcall.wr0 (hS.2.2.2.2.2.2.2.2.2.2.2.1 ..) ?_)
      | (with_reducible refine hcall.det (fun _ => hS.2.2.2.2.2.2.2.2.2.2.2.2.1 ..) ?_)
      | (with_reducible refine hcall.wr (fun _ => hS.2.2.2.2.2.2.2.2.2.2.2.2.1 ..) ?_)
      | (with_reducible refine hcall.wr0 (hS.2.2.2.2.2.2.2.2.2.2.2.2.1 ..) ?_)
      | (with_reducible refine hcall.det (fun _ => hS.2.2.2.2.2.2.2.2.2.2.2.2.2.1 ..) ?_)
      | (with_reducible refine hcall.wr (fun _ => hS.2.2.2.2.2.2.2.2.2.2.2.2.2.1 ..) ?_)
      | (with_reducible refine hcall.wr0 (hS.2.2.2.2.2.2.2.2.2.2.2.2.2.1 ..) ?_)); try simp (disch := omega) only [go_sem, Nat.reduceBEq, Nat.reduceLT, Nat.reduceEqDiff, reduceIte, Nat.reduceAdd, Nat.reduceMul, Nat.reduceSub, Nat.reduceLeDiff, Int.reduceToNat, Int.reducePow, Int.reduceLT, Int.reduceEq, Int.reduceNeg, Nat.reducePow, List.reduceReplicate, Int.reduceLE, eq_self, Nat.le_refl, hF])
    | (with_reducible refine acall.em0 ?_)
    | (with_reducible refine acall.em1 ?_)
    | (with_reducible refine qcall.em0 ?_)
    | (with_reducible refine qcall.em1 ?_)
    | ((first | (with_reducible refine acall.fz0 ?_) | (with_reducible refine acall.fz1 ?_)); simp (disch := omega) only [go_sem, Nat.reduceBEq, Nat.reduceLT, Nat.reduceEqDiff, reduceIte, Nat.reduceAdd, Nat.reduceMul, Nat.reduceSub, Nat.reduceLeDiff, Int.reduceToNat, Int.reducePow, Int.reduceLT, Int.reduceEq, Int.reduceNeg, Nat.reducePow, List.reduceReplicate, Int.reduceLE, eq_self, Nat.le_refl, hF]))
  exact hK.out) : G := h f s ⟨k⟩

theorem wkL {F S L G : Prop} (f : F) (s : S) (k : L) (h : F → S → Leaf L → G := by
  intro hF hS hK
  try simp only [number]
  repeat' (first
    | (with_reducible refine aops.step fun T hT => ?_; simp (disch := omega) only [go_sem, Nat.reduceBEq, Nat.reduceLT, Nat.reduceEqDiff, reduceIte, Nat.reduceAdd, Nat.reduceMul, Nat.reduceSub, Nat.reduceLeDiff, Int.reduceToNat, Int.reducePow, Int.reduceLT, Int.reduceEq, Int.reduceNeg, Nat.reducePow, List.reduceReplicate, Int.reduceLE, eq_self, Nat.le_refl, List.length_append, List.set_set, Int.natCast_add, Int.natCast_one, List.drop_zero, hF])
    | (with_reducible refine hT _ ?_; clear hT T)
    | (with_reducible refine aops.nil ?_)
    | (with_reducible refine qops.step fun T hT => ?_; simp (disch := omega) only [go_sem, Nat.reduceBEq, Nat.reduceLT, Nat.reduceEqDiff, reduceIte, Nat.reduceAdd, Nat.reduceMul, Nat.reduceSub, Nat.reduceLeDiff, Int.reduceToNat, Int.reducePow, Int.reduceLT, Int.reduceEq, Int.reduceNeg, Nat.reducePow, List.reduceReplicate, Int.reduceLE, eq_self, Nat.le_refl, List.length_append, List.set_set, Int.natCast_add, Int.natCast_one, List.drop_zero, hF])
    | (with_reducible refine qops.nil ?_)
    | (with_reducible refine hops.step fun T hT => ?_; simp (disch := omega) only [hone, hskip, patch, hole, List.headD_cons, List.tail_cons, Prod.mk.injEq, eq_self, and_assoc, exists_and_left, List.append_cancel_left_eq, List.cons.injEq, go_sem, Nat.reduceBEq, Nat.reduceLT, Nat.reduceEqDiff, reduceIte, Nat.reduceAdd, Nat.reduceMul, Nat.reduceSub, Nat.reduceLeDiff, Int.reduceToNat, Int.reducePow, Int.reduceLT, Int.reduceEq, Int.reduceNeg, Nat.reducePow, List.reduceReplicate, Int.reduceLE, eq_self, Nat.le_refl, List.length_append, List.set_set, Int.natCast_add, Int.natCast_one, List.drop_zero, hF])
    | (with_reducible refine hops.nil ?_)
    | (with_reducible refine hT _ _ ?_; clear hT T)
    | (with_reducible refine SOps.ownBo (by first | exact hS.1 | exact hS.2.1 | exact hS.2.2.1 | exact hS.2.2.2.1 | exact hS.2.2.2.2.1 | exact hS.2.2.2.2.2.1 | exact hS.2.2.2.2.2.2.1 | exact hS.2.2.2.2.2.2.2.1 | exact hS.2.2.2.2.2.2.2.2.1 | exact hS.2.2.2.2.2.2.2.2.2.1 | exact hS.2.2.2.2.2.2.2.2.2.2.1 | exact hS.2.2.2.2.2.2.2.2.2.2.2.1 | exact hS.2.2.2.2.2.2.2.2.2.2.2.2.1 | exact hS.2.2.2.2.2.2.2.2.2.2.2.2.2.1) fun T hT => ?_; simp (disch := omega) only [go_sem, Nat.reduceBEq, Nat.reduceLT, Nat.reduceEqDiff, reduceIte, Nat.reduceAdd, Nat.reduceMul, Nat.reduceSub, Nat.reduceLeDiff, Int.reduceToNat, Int.reducePow, Int.reduceLT, Int.reduceEq, Int.reduceNeg, Nat.reducePow, List.reduceReplicate, Int.reduceLE, eq_self, Nat.le_refl, List.length_append, List.set_set, Int.natCast_add, Int.natCast_one, List.drop_zero, hF])
    | (with_reducible refine SOps.own fun T hT => ?_; simp (disch := omega) only [go_sem, Nat.reduceBEq, Nat.reduceLT, Nat.reduceEqDiff, reduceIte, Nat.reduceAdd, Nat.reduceMul, Nat.reduceSub, Nat.reduceLeDiff, Int.reduceToNat, Int.reducePow, Int.reduceLT, Int.reduceEq, Int.reduceNeg, Nat.reducePow, List.reduceReplicate, Int.reduceLE, eq_self, Nat.le_refl, List.length_append, List.set_set, Int.natCast_add, Int.natCast_one, List.drop_zero, hF])
    | (with_reducible refine SOps.step fun T hT => ?_; simp (disch := omega) only [go_sem, Nat.reduceBEq, Nat.reduceLT, Nat.reduceEqDiff, reduceIte, Nat.reduceAdd, Nat.reduceMul, Nat.reduceSub, Nat.reduceLeDiff, Int.reduceToNat, Int.reducePow, Int.reduceLT, Int.reduceEq, Int.reduceNeg, Nat.reducePow, List.reduceReplicate, Int.reduceLE, eq_self, Nat.le_refl, List.length_append, List.set_set, Int.natCast_add, Int.natCast_one, List.drop_zero, hF])
    | (with_reducible refine SOps.nil ?_)
    | (with_reducible refine AWP.seq ?_)
    | (with_reducible refine AWP.block ?_)
    | (refine AWP.cond rfl (fun h => ?_) (fun h => ?_) <;> (try simp only [decide_eq_true_eq, decide_eq_false_iff_not, Bool.true_eq_false, Bool.false_eq_true] at h) <;> (try contradiction))
    | (refine AWP.region_o (by first | exact hS.1 | exact hS.2.1 | exact hS.2.2.1 | exact hS.2.2.2.1 | exact hS.2.2.2.2.1 | exact hS.2.2.2.2.2.1 | exact hS.2.2.2.2.2.2.1 | exact hS.2.2.2.2.2.2.2.1 | exact hS.2.2.2.2.2.2.2.2.1 | exact hS.2.2.2.2.2.2.2.2.2.1 | exact hS.2.2.2.2.2.2.2.2.2.2.1 | exact hS.2.2.2.2.2.2.2.2.2.2.2.1 | exact hS.2.2.2.2.2.2.2.2.2.2.2.2.1 | exact hS.2.2.2.2.2.2.2.2.2.2.2.2.2.1) fun Q' hQ' => ?_)
    | (refine AWP.drawH_o (by first | exact hS.1 | exact hS.2.1 | exact hS.2.2.1 | exact hS.2.2.2.1 | exact hS.2.2.2.2.1 | exact hS.2.2.2.2.2.1 | exact hS.2.2.2.2.2.2.1 | exact hS.2.2.2.2.2.2.2.1 | exact hS.2.2.2.2.2.2.2.2.1 | exact hS.2.2.2.2.2.2.2.2.2.1 | exact hS.2.2.2.2.2.2.2.2.2.2.1 | exact hS.2.2.2.2.2.2.2.2.2.2.2.1 | exact hS.2.2.2.2.2.2.2.2.2.2.2.2.1 | exact hS.2.2.2.2.2.2.2.2.2.2.2.2.2.1) rfl (by decide +kernel) fun Q' hQ' => ?_)
    | (refine AWP.drawH0_o (by first | exact hS.1 | exact hS.2.1 | exact hS.2.2.1 | exact hS.2.2.2.1 | exact hS.2.2.2.2.1 | exact hS.2.2.2.2.2.1 | exact hS.2.2.2.2.2.2.1 | exact hS.2.2.2.2.2.2.2.1 | exact hS.2.2.2.2.2.2.2.2.1 | exact hS.2.2.2.2.2.2.2.2.2.1 | exact hS.2.2.2.2.2.2.2.2.2.2.1 | exact hS.2.2.2.2.2.2.2.2.2.2.2.1 | exact hS.2.2.2.2.2.2.2.2.2.2.2.2.1 | exact hS.2.2.2.2.2.2.2.2.2.2.2.2.2.1) rfl (by decide +kernel) fun Q' hQ' => ?_)
    | (refine AWP.region_k fun Q' hQ' => ?_)
    | (refine AWP.drawT_o (by first | exact hS.1 | exact hS.2.1 | exact hS.2.2.1 | exact hS.2.2.2.1 | exact hS.2.2.2.2.1 | exact hS.2.2.2.2.2.1 | exact hS.2.2.2.2.2.2.1 | exact hS.2.2.2.2.2.2.2.1 | exact hS.2.2.2.2.2.2.2.2.1 | exact hS.2.2.2.2.2.2.2.2.2.1 | exact hS.2.2.2.2.2.2.2.2.2.2.1 | exact hS.2.2.2.2.2.2.2.2.2.2.2.1 | exact hS.2.2.2.2.2.2.2.2.2.2.2.2.1 | exact hS.2.2.2.2.2.2.2.2.2.2.2.2.2.1) rfl (by decide +kernel) fun Q' hQ' => ?_; try simp only [List.length_cons, List.length_nil, Nat.reduceAdd, Nat.reduceSub, List.take_succ_cons, List.take_zero, List.drop_succ_cons, List.drop_zero])
    | (refine AWP.drawTn_o (by first | exact hS.1 | exact hS.2.1 | exact hS.2.2.1 | exact hS.2.2.2.1 | exact hS.2.2.2.2.1 | exact hS.2.2.2.2.2.1 | exact hS.2.2.2.2.2.2.1 | exact hS.2.2.2.2.2.2.2.1 | exact hS.2.2.2.2.2.2.2.2.1 | exact hS.2.2.2.2.2.2.2.2.2.1 | exact hS.2.2.2.2.2.2.2.2.2.2.1 | exact hS.2.2.2.2.2.2.2.2.2.2.2.1 | exact hS.2.2.2.2.2.2.2.2.2.2.2.2.1 | exact hS.2.2.2.2.2.2.2.2.2.2.2.2.2.1) rfl (by decide +kernel) fun Q' hQ' => ?_; try simp only [List.length_cons, List.length_nil, Nat.reduceAdd, Nat.reduceSub, List.take_succ_cons, List.take_zero, List.drop_succ_cons, List.drop_zero])
    | (refine AWP.draw_o (by first | exact hS.1 | exact hS.2.1 | exact hS.2.2.1 | exact hS.2.2.2.1 | exact hS.2.2.2.2.1 | exact hS.2.2.2.2.2.1 | exact hS.2.2.2.2.2.2.1 | exact hS.2.2.2.2.2.2.2.1 | exact hS.2.2.2.2.2.2.2.2.1 | exact hS.2.2.2.2.2.2.2.2.2.1 | exact hS.2.2.2.2.2.2.2.2.2.2.1 | exact hS.2.2.2.2.2.2.2.2.2.2.2.1 | exact hS.2.2.2.2.2.2.2.2.2.2.2.2.1 | exact hS.2.2.2.2.2.2.2.2.2.2.2.2.2.1) rfl (by kernel_rfl) fun Q' hQ' => ?_)
    | (with_reducible refine AWP.skip ?_; try simp only [AExit.then, AExit.inBlock, AExit.noGoto, reduceIte, Nat.reduceEqDiff])
    | (with_reducible refine AWP.exit ?_; try simp only [AExit.then, AExit.inBlock, AExit.noGoto, reduceIte, Nat.reduceEqDiff])
    | (with_reducible refine AWP.ret ?_; try simp only [AExit.then, AExit.inBlock, AExit.noGoto, reduceIte, Nat.reduceEqDiff])
    | (with_reducible refine AWP.scope ?_)
    | (with_reducible refine AWP.label ?_; try simp only [AExit.then, AExit.inBlock, AExit.noGoto, reduceIte, Nat.reduceEqDiff])
    | (refine hQ' (AExit.panic _) _ ?_; clear hT T hQ' Q'; try simp only [AExit.then, AExit.inBlock, AExit.noGoto, reduceIte, Nat.reduceEqDiff])
    | (refine hQ' (AExit.panic _) _ ?_; clear hQ' Q'; try simp only [AExit.then, AExit.inBlock, AExit.noGoto, reduceIte, Nat.reduceEqDiff])
    | (refine hQ' _ _ ?_; clear hQ' Q'; try simp only [AExit.then, AExit.inBlock, AExit.noGoto, reduceIte, Nat.reduceEqDiff])
    | (refine hQ' _ ?_; clear hQ' Q'; try simp only [AExit.then, AExit.inBlock, AExit.noGoto, reduceIte, Nat.reduceEqDiff])
    | (with_reducible refine Branch.split (fun h => ?_) (fun h => ?_) <;> (try simp only [decide_eq_true_eq, decide_eq_false_iff_not, Bool.not_true, Bool.not_false, Bool.true_eq_false, Bool.false_eq_true] at h) <;> (try contradiction) <;> (simp (disch := omega) only [go_sem, Nat.reduceBEq, Nat.reduceLT, Nat.reduceEqDiff, reduceIte, Nat.reduceAdd, Nat.reduceMul, Nat.reduceSub, Nat.reduceLeDiff, Int.reduceToNat, Int.reducePow, Int.reduceLT, Int.reduceEq, Int.reduceNeg, Nat.reducePow, List.reduceReplicate, Int.reduceLE, eq_self, Nat.le_refl, List.length_append, List.set_set, Int.natCast_add, Int.natCast_one, List.drop_zero, h, hF]))
    | (with_reducible intro h; try simp only [h, go_sem, Nat.reduceBEq, Nat.reduceLT, Nat.reduceEqDiff, reduceIte, Nat.reduceAdd, Nat.reduceMul, Nat.reduceSub, Nat.reduceLeDiff, Int.reduceToNat, Int.reducePow, Int.reduceLT, Int.reduceEq, Int.reduceNeg, Nat.reducePow, List.reduceReplicate, Int.reduceLE, eq_self, Nat.le_refl, List.length_append, List.set_set, Int.natCast_add, Int.natCast_one, List.drop_zero, hF])
    | ((first
      | (with_reducible refine acall.det (hS.1 ..) ?_)
      | (with_reducible refine acall.det (hS.2.1 ..) ?_)
      | (with_reducible refine acall.det (hS.2.2.1 ..) ?_)
      | (with_reducible refine acall.det (hS.2.2.2.1 ..) ?_)
      | (with_reducible refine acall.det (hS.2.2.2.2.1 ..) ?_)
      | (with_reducible refine acall.det (hS.2.2.2.2.2.1 ..) ?_)
      | (with_reducible refine acall.det (hS.2.2.2.2.2.2.1 ..) ?_)
      | (with_reducible refine acall.det (hS.2.2.2.2.2.2.2.1 ..) ?_)
      | (with_reducible refine acall.det (hS.2.2.2.2.2.2.2.2.1 ..) ?_)
      | (with_reducible refine acall.det (hS.2.2.2.2.2.2.2.2.2.1 ..) ?_)
      | (with_reducible refine acall.det (hS.2.2.2.2.2.2.2.2.2.2.1 ..) ?_)
      | (with_reducible refine acall.det (hS.2.2.2.2.2.2.2.2.2.2.2.1 ..) ?_)
      | (with_reducible refine acall.det (hS.2.2.2.2.2.2.2.2.2.2.2.2.1 ..) ?_)
      | (with_reducible refine acall.det (hS.2.2.2.2.2.2.2.2.2.2.2.2.2.1 ..) ?_)
      | (with_reducible refine qcall.det (hS.1 ..) ?_)
      | (with_reducible refine qcall.det (hS.2.1 ..) ?_)
      | (with_reducible refine qcall.det (hS.2.2.1 ..) ?_)
      | (with_reducible refine qcall.det (hS.2.2.2.1 ..) ?_)
      | (with_reducible refine qcall.det (hS.2.2.2.2.1 ..) ?_)
      | (with_reducible refine qcall.det (hS.2.2.2.2.2.1 ..) ?_)
      | (with_reducible refine qcall.det (hS.2.2.2.2.2.2.1 ..) ?_)
      | (with_reducible refine qcall.det (hS.2.2.2.2.2.2.2.1 ..) ?_)
      | (with_reducible refine qcall.det (hS.2.2.2.2.2.2.2.2.1 ..) ?_)
      | (with_reducible refine qcall.det (hS.2.2.2.2.2.2.2.2.2.1 ..) ?_)
      | (with_reducible refine qcall.det (hS.2.2.2.2.2.2.2.2.2.2.1 ..) ?_)
      | (with_reducible refine qcall.det (hS.2.2.2.2.2.2.2.2.2.2.2.1 ..) ?_)
      | (with_reducible refine qcall.det (hS.2.2.2.2.2.2.2.2.2.2.2.2.1 ..) ?_)
      | (with_reducible refine qcall.det (hS.2.2.2.2.2.2.2.2.2.2.2.2.2.1 ..) ?_)
      | (with_reducible refine hcall.det (fun _ => hS.1 ..) ?_)
      | (with_reducible refine hcall.wr (fun _ => hS.1 ..) ?_)
      | (with_reducible refine hcall.wr0 (hS.1 ..) ?_)
      | (with_reducible refine hcall.det (fun _ => hS.2.1 ..) ?_)
      | (with_reducible refine hcall.wr (fun _ => hS.2.1 ..) ?_)
      | (with_reducible refine hcall.wr0 (hS.2.1 ..) ?_)
      | (with_reducible refine hcall.det (fun _ => hS.2.2.1 ..) ?_)
      | (with_reducible refine hcall.wr (fun _ => hS.2.2.1 ..) ?_)
      | (with_reducible refine hcall.wr0 (hS.2.2.1 ..) ?_)
      | (with_reducible refine hcall.det (fun _ => hS.2.2.2.1 ..) ?_)
      | (with_reducible refine hcall.wr (fun _ => hS.2.2.2.1 ..) ?_)
      | (with_reducible refine hcall.wr0 (hS.2.2.2.1 ..) ?_)
      | (with_reducible refine hcall.det (fun _ => hS.2.2.2.2.1 ..) ?_)
      | (with_reducible refine hcall.wr (fun _ => hS.2.2.2.2.1 ..) ?_)
      | (with_reducible refine hcall.wr0 (hS.2.2.2.2.1 ..) ?_)
      | (with_reducible refine hcall.det (fun _ => hS.2.2.2.2.2.1 ..) ?_)
      | (with_reducible refine hcall.wr (fun _ => hS.2.2.2.2.2.1 ..) ?_)
      | (with_reducible refine hcall.wr0 (hS.2.2.2.2.2.1 ..) ?_)
      | (with_reducible refine hcall.det (fun _ => hS.2.2.2.2.2.2.1 ..) ?_)
      | (with_reducible refine hcall.wr (fun _ => hS.2.2.2.2.2.2.1 ..) ?_)
      | (with_reducible refine hcall.wr0 (hS.2.2.2.2.2.2.1 ..) ?_)
      | (with_reducible refine hcall.det (fun _ => hS.2.2.2.2.2.2.2.1 ..) ?_)
      | (with_reducible refine hcall.wr (fun _ => hS.2.2.2.2.2.2.2.1 ..) ?_)
      | (with_reducible refine hcall.wr0 (hS.2.2.2.2.2.2.2.1 ..) ?_)
      | (with_reducible refine hcall.det (fun _ => hS.2.2.2.2.2.2.2.2.1 ..) ?_)
      | (with_reducible refine hcall.wr (fun _ => hS.2.2.2.2.2.2.2.2.1 ..) ?_)
      | (with_reducible refine hcall.wr0 (hS.2.2.2.2.2.2.2.2.1 ..) ?_)
      | (with_reducible refine hcall.det (fun _ => hS.2.2.2.2.2.2.2.2.2.1 ..) ?_)
      | (with_reducible refine hcall.wr (fun _ => hS.2.2.2.2.2.2.2.2.2.1 ..) ?_)
      | (with_reducible refine hcall.wr0 (hS.2.2.2.2.2.2.2.2.2.1 ..) ?_)
      | (with_reducible refine hcall.det (fun _ => hS.2.2.2.2.2.2.2.2.2.2.1 ..) ?_)
      | (with_reducible refine hcall.wr (fun _ => hS.2.2.2.2.2.2.2.2.2.2.1 ..) ?_)
      | (with_reducible refine hcall.wr0 (hS.2.2.2.2.2.2.2.2.2.2.1 ..) ?_)
      | (with_reducible refine hcall.det (fun _ => hS.2.2.2.2.2.2.2.2.2.2.2.1 ..) ?_)
      | (with_reducible refine hcall.wr (fun _ => hS.2.2.2.2.2.2.2.2.2.2.2.1 ..) ?_)
      | (with_reducible refine hcall.wr0 (hS.2.2.2.2.2.2.2.2.2.2.2.1 ..) ?_)
      | (with_reducible refine hcall.det (fun _ => hS.2.2.2.2.2.2.2.2.2.2.2.2.1 ..) ?_)
      | (with_reducible refine hcall.wr (fun _ => hS.2.2.2.2.2.2.2.2.2.2.2.2.1 ..) ?_)
      | (with_reducible refine hcall.wr0 (hS.2.2.2.2.2.2.2.2.2.2.2.2.1 ..) ?_)
      | (with_reducible refine hcall.det (fun _ => hS.2.2.2.2.2.2.2.2.2.2.2.2.2.1 ..) ?_)
      | (with_reducible refine hcall.wr (fun _ => hS.2.2.2.2.2.2.2.2.2.2.2.2.2.1 ..) ?_)
      | (with_reducible refine hcall.wr0 (hS.2.2.2.2.2.2.2.2.2.2.2.2.2.1 ..) ?_)); try simp (disch := omega) only [go_sem, Nat.reduceBEq, Nat.reduceLT, Nat.reduceEqDiff, reduceIte, Nat.reduceAdd, Nat.reduceMul, Nat.reduceSub, Nat.reduceLeDiff, Int.reduceToNat, Int.reducePow, Int.reduceLT, Int.reduceEq, Int.reduceNeg, Nat.reducePow, List.reduceReplicate, Int.reduceLE, eq_self, Nat.le_refl, List.length_append, List.set_set, Int.natCast_add, Int.natCast_one, List.drop_zero, hF]))
  exact hK.out) : G := h f s ⟨k⟩

/-- A walk's end. -/
theorem wkEnd {F L G : Prop} (f : F) (k : L) (h : F → Leaf L → G := by
  intro hF hK
  simp (disch := omega) only [bodyQ, go_sem, Nat.reduceBEq, Nat.reduceLT, Nat.reduceEqDiff, reduceIte, Nat.reduceAdd, Nat.reduceMul, Nat.reduceSub, Nat.reduceLeDiff, Int.reduceToNat, Int.reducePow, Int.reduceLT, Int.reduceEq, Int.reduceNeg, Nat.reducePow, List.reduceReplicate, Int.reduceLE, hF]
  exact hK.out) : G := h f ⟨k⟩
/-- What is kept at a round's end. -/
theorem Coe.kp {E : Ent} {l l' : List (Nat × AV)} {H : List Box} (h : Keeps l l' := by
  simp (disch := omega) only [Keeps, List.mem_cons, List.not_mem_nil, or_false, forall_eq_or_imp, forall_eq, List.length_append, Int.natCast_add, Int.natCast_one, Int.add_sub_cancel, Int.reduceSub, Int.reduceAdd, go_sem, Nat.reduceBEq, Nat.reduceLT, Nat.reduceEqDiff, reduceIte, Nat.reduceAdd, Nat.reduceMul, Nat.reduceSub, Nat.reduceLeDiff, Int.reduceToNat, Int.reducePow, Int.reduceLT, Int.reduceEq, Int.reduceNeg, Nat.reducePow, List.reduceReplicate, Int.reduceLE]
  all_goals (repeat' (first | rfl | constructor))) : Coe E ⟨l, H⟩ ⟨l', H⟩ := Coe.keep h
theorem Coe.kpF {F : Prop} {E : Ent} {l l' : List (Nat × AV)} {H : List Box} (f : F) (h : F → Keeps l l' := by
  intro hF
  simp (disch := omega) only [Keeps, List.mem_cons, List.not_mem_nil, or_false, forall_eq_or_imp, forall_eq, List.length_append, Int.natCast_add, Int.natCast_one, Int.add_sub_cancel, Int.reduceSub, Int.reduceAdd, go_sem, Nat.reduceBEq, Nat.reduceLT, Nat.reduceEqDiff, reduceIte, Nat.reduceAdd, Nat.reduceMul, Nat.reduceSub, Nat.reduceLeDiff, Int.reduceToNat, Int.reducePow, Int.reduceLT, Int.reduceEq, Int.reduceNeg, Nat.reducePow, List.reduceReplicate, Int.reduceLE, hF]
  all_goals (repeat' (first | rfl | constructor))) : Coe E ⟨l, H⟩ ⟨l', H⟩ := Coe.keep (h f)
theorem Keeps.kp {F : Prop} {l l' : List (Nat × AV)} (f : F) (h : F → Keeps l l' := by
  intro hF
  simp (disch := omega) only [Keeps, List.mem_cons, List.not_mem_nil, or_false, forall_eq_or_imp, forall_eq, List.length_append, Int.natCast_add, Int.natCast_one, Int.add_sub_cancel, Int.reduceSub, Int.reduceAdd, go_sem, Nat.reduceBEq, Nat.reduceLT, Nat.reduceEqDiff, reduceIte, Nat.reduceAdd, Nat.reduceMul, Nat.reduceSub, Nat.reduceLeDiff, Int.reduceToNat, Int.reducePow, Int.reduceLT, Int.reduceEq, Int.reduceNeg, Nat.reducePow, List.reduceReplicate, Int.reduceLE, hF]
  all_goals (repeat' (first | rfl | constructor))) : Keeps l l' := h f
/-- A function's body, entered. -/
theorem ASpec.enter {P : Program} {f : FuncId} {fn : Func} {c : Code} {args : List AV} {H : List Box} {K : Out → List Box → Prop} {n : Nat} {rs : List ResultVar} (hf : P.funcs[f]? = some fn) (hb : fn.body = some c) (hen : enters P f) (hnt : fn.ntmps = n) (hrs : fn.results = rs.toArray)
    (h : ∀ (base : Nat) (w : World) (β : Pl) (hI : Inv base w H β), AWP P ⟨base, n, w, H, β, hI, []⟩ c (bodyQ P ⟨base, n, w, H, β, hI, []⟩ rs K) ⟨number 0 args, H⟩) (hn : args.length ≤ n := by simp) : ASpec P f args H K :=
  fun base => acall_body hf hb hen hnt hrs hn (h base)
end Go.Proofs.YtjkdahpoalnjjaaDoor.VL

/- The value logic: a caller's box has changed, and new boxes are forgotten. -/
set_option linter.unusedVariables false
set_option linter.unusedSimpArgs false
set_option maxRecDepth 10000
namespace Go.Proofs.YtjkdahpoalnjjaaDoor.VL
open Go Go.RowKit Go.Lib

/-- The cells of boxes lie below. -/
def LtH (n : Nat) (H : List Box) : Prop := ∀ (i : Nat) (bx : Box), H[i]? = some bx → ∀ (j : Nat) (c : AV), bx.cells[j]? = some c → Lt n c
theorem Ent.ltH (E : Ent) : LtH E.H.length E.H := fun i bx hi j c hj => E.inv.ltCells hi hj
theorem LtH.set {n : Nat} {H : List Box} {k : Nat} {x : Box} (h : LtH n H) (hx : ∀ (j : Nat) (c : AV), x.cells[j]? = some c → Lt n c) : LtH n (H.set k x) := fun i bx hi j c hj => by
  rw [List.getElem?_set] at hi
  split at hi
  · split at hi
    · injection hi with hi; subst hi; exact hx j c hj
    · cases hi
  · exact h i bx hi j c hj
/-- New boxes are forgotten; the caller's may have changed. -/
theorem Fin.cutG {E : Ent} {r : AV} {H' N : List Box} {K : AV → List Box → Prop} (hl : H'.length = E.H.length) (hc : LtH E.H.length H') (hr : Lt E.H.length r) (h : K r H') : Fin E r (H' ++ N) K :=
  ⟨r, H', fun w β v hI hs hr' => by
    obtain ⟨h1, h2, h3⟩ := cut_inv hI hs (by rw [hl]; exact hc) (by omega)
    exact ⟨β, h1, h2, h3 r v (by rw [hl]; exact hr) hr'⟩, h⟩
/-- The same, and a new slice is only read from now on. -/
theorem Fin.frozH {E : Ent} {H' N : List Box} {r r' : AV} {b g n sz : Nat} {full : Bool} {bx : Box} {G : List (List AV)} {K : AV → List Box → Prop} (hl : H'.length = E.H.length) (hlc : LtH E.H.length H') (hb : (H' ++ N)[b]? = some bx) (hge : H'.length ≤ b) (hg : bx.gen = g) (hfit : n * sz ≤ bx.cells.length) (hG : chunk sz n bx.cells = G)
    (hsw : ∀ (w : World) (H : List Box) (β : Pl) (v : Value), (∀ x, Rep w H β (.sl b g 0 n sz full) x → Rep w H β (.lst sz G) x) → Rep w H β r v → Rep w H β r' v) (hlt : Lt 0 r') (h : K r' H') : Fin E r (H' ++ N) K :=
  ⟨r', H', fun w β v hI hs hr => by
    obtain ⟨h1, h2⟩ := freeze_inv hI hb (show 0 + n * sz ≤ bx.cells.length by omega)
    have hbl : b < (H' ++ N).length := (List.getElem?_eq_some_iff.1 hb).1
    have hr' := hsw w _ β v (fun x hx => by
      have hv : Rep w _ β (.lst sz (chunk sz n (bx.cells.drop 0))) x := rep_view (bx := { bx with ro := max bx.ro (0 + n * sz) }) h1 (List.getElem?_set_self hbl) hg (Nat.le_max_right _ _) hx
      rwa [List.drop_zero, hG] at hv) (hr.stp h2)
    have hs' := hs.trans h2
    rw [List.set_append_right _ _ hge] at h1 hs' hr'
    obtain ⟨g1, g2, g3⟩ := cut_inv h1 hs' (by rw [hl]; exact hlc) (by omega)
    exact ⟨β, g1, g2, g3 _ _ (hlt.mono (Nat.zero_le _)) hr'⟩, h⟩


end Go.Proofs.YtjkdahpoalnjjaaDoor.VL

/- The value logic: the first place where something holds. -/
set_option linter.unusedVariables false
set_option linter.unusedSimpArgs false
namespace Go.Proofs.YtjkdahpoalnjjaaDoor.VL
open Go Go.RowKit Go.Lib

/-- The first place where f holds. -/
def ixOf {α : Type} (f : α → Bool) : List α → Nat → Int
  | [], _ => -1
  | x :: l, i => if f x then (i : Int) else ixOf f l (i + 1)
theorem ixOf_any {α : Type} (f : α → Bool) : ∀ (l : List α) (i : Nat), decide (0 ≤ ixOf f l i) = l.any f
  | [], _ => by simp [ixOf]
  | x :: l, i => by
    rw [ixOf, List.any_cons]
    by_cases h : f x = true
    · rw [if_pos h, h]; simp
    · rw [if_neg h, ixOf_any f l (i + 1)]
      simp [h]
theorem ixOf_drop {α : Type} (f : α → Bool) {l : List α} {i : Nat} {x : α} (h : l[i]? = some x) : ixOf f (l.drop i) i = if f x then (i : Int) else ixOf f (l.drop (i + 1)) (i + 1) := by
  have hi := (List.getElem?_eq_some_iff.1 h).1
  rw [List.drop_eq_getElem_cons hi, ixOf, (List.getElem?_eq_some_iff.1 h).2]

theorem ltVV {n : Nat} (a b : Value) : Lt n (.tup [.v a, .v b]) := .tup _ fun i c hi => by
  rcases i with _ | _ | i <;> simp at hi <;> subst hi <;> exact .v _
/-- All new boxes are forgotten at the end of a round. -/
theorem Coe.cut0 {E : Ent} {l l' : List (Nat × AV)} {N : List Box} (h : Keeps l l') (hlt : ∀ p ∈ l', Lt E.H.length p.2) : Coe E ⟨l, E.H ++ N⟩ ⟨l', E.H⟩ := by
  have := Coe.cutN (E := E) (M := []) (N := N) h (by simpa using hlt) (by simp)
  simpa using this
theorem take_snoc {α : Type} {l : List α} {i : Nat} {x : α} (h : l[i]? = some x) : l.take (i + 1) = l.take i ++ [x] := by
  obtain ⟨hi, he⟩ := List.getElem?_eq_some_iff.1 h
  rw [List.take_succ_eq_append_getElem hi, he]


end Go.Proofs.YtjkdahpoalnjjaaDoor.VL

/- Cells of boxes that hold slices: an empty one becomes one of a box of its own; one's own is only read from now on. -/
set_option linter.unusedVariables false
set_option linter.unusedSimpArgs false
namespace Go.Proofs.YtjkdahpoalnjjaaDoor.VL
open Go Go.RowKit Go.Lib

/-- A cell says less. -/
theorem Coe.cell {E : Ent} {l : List (Nat × AV)} {H : List Box} {k j : Nat} {bx : Box} {c c' : AV} (hb : H[k]? = some bx) (hj : bx.cells[j]? = some c) (hw : ∀ (w : World) (β : Pl) (x : Value), Inv E.base w H β → Rep w H β c x → Rep w H β c' x) :
    Coe E ⟨l, H⟩ ⟨l, H.set k ⟨bx.cells.set j c', bx.ro, bx.gen, bx.grow⟩⟩ := fun a w ⟨β, hs⟩ => by
  have hI := hs.inv
  dsimp only at hI
  cases hβ : β k with
  | none =>
    have := hI.virt _ _ hb hβ
    simp [this] at hj
  | some p =>
    obtain ⟨k', s⟩ := p
    obtain ⟨q1, q2⟩ := hI.real _ _ _ _ hb hβ
    have hcells := hI.cells _ _ _ _ hb hβ
    obtain ⟨g1, g2⟩ := repl (w' := w) (bx' := ⟨bx.cells.set j c', bx.ro, bx.gen, bx.grow⟩) (k' := k') (s' := s) hI hb (Wor.refl _) (fun _ _ => False) (fun _ _ h => h.elim) (fun _ _ _ _ => rfl)
      ⟨q1, q2⟩ (by rw [List.length_set]; exact hI.ro _ _ hb) (.inr ⟨s, hβ, Nat.le_refl _, Nat.le_refl _, fun h => h, .inr (by rw [List.length_set]; exact Nat.le_refl _)⟩) (Nat.le_refl _) (fun _ => hβ) (fun h => by omega) (fun i c1 hi => by
        by_cases hij : i = j
        · subst hij
          dsimp only at hi
          rw [List.getElem?_set_self (List.getElem?_eq_some_iff.1 hj).1] at hi
          injection hi with hi
          subst hi
          obtain ⟨x, e1, e2, e3⟩ := hcells i _ hj
          exact ⟨x, e1, e2, hw _ _ _ hI e3⟩
        · dsimp only at hi
          rw [List.getElem?_set_ne (Ne.symm hij)] at hi
          exact hcells i _ hi)
    exact ⟨_, ⟨hs.defers, hs.size, g1, hs.stp.trans g2, fun t => (hs.tmps t).stp g2⟩⟩
/-- A box that holds nothing. -/
theorem Coe.newB {E : Ent} {l : List (Nat × AV)} {H : List Box} : Coe E ⟨l, H⟩ ⟨l, H ++ [(⟨[], 0, 0, true⟩ : Box)]⟩ := fun a w ⟨β, hs⟩ => by
  obtain ⟨h1, h2⟩ := newv hs.inv 0 0 rfl
  exact ⟨_, ⟨hs.defers, hs.size, h1, hs.stp.trans h2, fun t => (hs.tmps t).stp h2⟩⟩
theorem Coe.empCell {E : Ent} {l : List (Nat × AV)} {H : List Box} {k j : Nat} {bx : Box} (sz : Nat) (hb : H[k]? = some bx) (hj : bx.cells[j]? = some .emp) :
    Coe E ⟨l, H⟩ ⟨l, (H ++ [(⟨[], 0, 0, true⟩ : Box)]).set k ⟨bx.cells.set j (.sl H.length 0 0 0 sz false), bx.ro, bx.gen, bx.grow⟩⟩ :=
  Coe.trans (σ' := ⟨l, H ++ [(⟨[], 0, 0, true⟩ : Box)]⟩) Coe.newB (Coe.cell (H := H ++ [(⟨[], 0, 0, true⟩ : Box)]) (by rw [List.getElem?_append_left (List.getElem?_eq_some_iff.1 hb).1]; exact hb) hj fun w β x hI hr => by
    cases hr with
    | emp a => exact rep_sl (bx := ⟨[], 0, 0, true⟩) (by rw [List.getElem?_append_right (by omega)]; simp) rfl ⟨a, 0, rfl, Nat.le_refl _, by simp, fun hh => absurd hh (by omega)⟩)
theorem Coe.freezeCell {E : Ent} {l : List (Nat × AV)} {H : List Box} {k j m g n sz : Nat} {bx bm : Box} {G : List (List AV)} (hb : H[k]? = some bx) (hj : bx.cells[j]? = some (.sl m g 0 n sz false)) (hm : H[m]? = some bm) (hg : bm.gen = g) (hkm : k ≠ m) (hfit : n * sz ≤ bm.cells.length) (hG : chunk sz n bm.cells = G) :
    Coe E ⟨l, H⟩ ⟨l, (H.set m { bm with ro := max bm.ro (n * sz) }).set k ⟨bx.cells.set j (.lst sz G), bx.ro, bx.gen, bx.grow⟩⟩ :=
  Coe.trans (σ' := ⟨l, H.set m { bm with ro := max bm.ro (n * sz) }⟩) (fun a w ⟨β, hs⟩ => by
    obtain ⟨h1, h2⟩ := freeze_inv hs.inv hm hfit
    exact ⟨β, ⟨hs.defers, hs.size, h1, hs.stp.trans h2, fun t => (hs.tmps t).stp h2⟩⟩)
    (Coe.cell (by rw [List.getElem?_set_ne (Ne.symm hkm)]; exact hb) hj fun w β x hI hr => by
      have hv := rep_view (bx := { bm with ro := max bm.ro (n * sz) }) hI (List.getElem?_set_self (List.getElem?_eq_some_iff.1 hm).1) hg (by rw [Nat.zero_add]; exact Nat.le_max_right _ _) hr
      rwa [List.drop_zero, hG] at hv)

end Go.Proofs.YtjkdahpoalnjjaaDoor.VL

/- The value logic: a function with one deferred closure, which may recover. -/
set_option linter.unusedVariables false
set_option linter.unusedSimpArgs false
namespace Go.Proofs.YtjkdahpoalnjjaaDoor.VL
open Go Go.RowKit Go.Lib

theorem CallsD.mono {P : Program} {f : FuncId} {args : Array Value} {u : FrameMode} {w : World} {R R' : Ending → FrameMode → World → Prop} (h : CallsD P f args u w R) (hR : ∀ e u w, R e u w → R' e u w) : CallsD P f args u w R' := fun c cs hc =>
  let ⟨e, u', w', fr, h1, h2⟩ := h c cs hc
  ⟨e, u', w', fr, hR _ _ _ h1, h2⟩

/-- What a closure does that is called as its caller leaves: the caller's mode and the boxes, before and behind it. -/
def DSpec (P : Program) (fd : FuncId) (caps : List AV) (u u' : FrameMode) (H H' : List Box) : Prop :=
  ∀ (base : Nat) (w : World) (β : Pl) (vs : Array Value), Inv base w H β → Reps w H β caps vs →
    CallsD P fd vs u w (fun e m w' => m = u' ∧ (∃ v, e = .returned v) ∧ ∃ β', Inv base w' H' β' ∧ Stp base w H β w' H' β')

theorem reps_tmps {w : World} {H : List Box} {β : Pl} {args : List AV} {vs : Array Value} (hr : Reps w H β args vs) {n : Nat} (hn : args.length ≤ n) (k : Nat) : Rep w H β (lk (number 0 args) k) ((vs ++ Array.replicate (n - vs.size) undef).getD k undef) := by
  simp only [lk_number, Nat.zero_le, if_true, Nat.sub_zero]
  cases hk : args[k]? with
  | none => exact .dead _
  | some cc =>
    have hkl := (List.getElem?_eq_some_iff.1 hk).1
    have hkv : k < vs.size := by have := hr.1; omega
    have : (vs ++ Array.replicate (n - vs.size) undef).getD k undef = vs[k] := by
      rw [Array.getD_eq_getD_getElem?, Array.getElem?_append_left hkv, Array.getElem?_eq_getElem hkv]
      rfl
    rw [this]
    exact hr.2 k cc _ hk (Array.getElem?_eq_getElem hkv)

/-- What recover answers, and the caller's mode behind it. -/
inductive Recov : FrameMode → Value → FrameMode → Prop
  | ret : Recov .returning .nilIface .returning
  | pan (v : Value) : Recov (.panicking [{ v, recovered := false }]) v (.panicking [{ v, recovered := true }])

theorem DSpec.of {P : Program} {fd : FuncId} {fn : Func} {rest : Code} {id k n : Nat} {o : Oper} {caps : List AV} {u u' : FrameMode} {x : Value} {H H' : List Box} (hf : P.funcs[fd]? = some fn) (hb : fn.body = some (.seq (.region id #[o] false) rest))
    (ho : o.op = .call { callee := .builtin .recover, args := #[], argTypes := #[] }) (hd : o.dst = some k) (hg : o.guard = none) (hres : fn.results = #[]) (hnt : fn.ntmps = n) (hk : k < n) (hn : caps.length ≤ n) (hu : Recov u x u')
    (h : ∀ (base : Nat) (w : World) (β : Pl) (hI : Inv base w H β), AWP P ⟨base, n, w, H, β, hI, []⟩ rest (fun e σ => (e = .normal ∨ e = .ret) ∧ σ.H = H') ⟨(k, .v x) :: number 0 caps, H⟩) : DSpec P fd caps u u' H H' := by
  refine fun base w β vs hI hr => callsD_of_wpS hf hb fun c₀ cs hc => ?_
  refine wpS_seq (wpS_region ?_)
  have hrun : ∀ ρ : Operand → Value, (execOp ρ o).run P w = .ok .recover w := fun ρ => by
    unfold execOp
    simp [ho, resolve, invoke, builtin]
  have hsim : ∀ a : Act, a = ({ tmps := vs ++ Array.replicate (fn.ntmps - vs.size) undef, defers := [] } : Act).put o.dst x → Sim ⟨base, n, w, H, β, hI, []⟩ ⟨(k, .v x) :: number 0 caps, H⟩ a w := fun a ha => by
    subst ha
    refine ⟨β, ?_, ?_, hI, Stp.refl _ _ _, fun j => ?_⟩
    · rw [hd]; rfl
    · rw [hd, hnt]
      have := hr.1
      simp [Act.put]
      omega
    · rw [hd, hnt]
      simp only [lk_cons]
      by_cases hj : k = j
      · subst hj
        rw [if_pos rfl]
        have hsz : k < (vs ++ Array.replicate (n - vs.size) undef).size := by have := hr.1; simp; omega
        have : ((({ tmps := vs ++ Array.replicate (n - vs.size) undef, defers := [] } : Act).put (some k) x).tmps.getD k undef) = x := by
          simp only [Act.put, Array.getD_eq_getD_getElem?, Array.getElem?_setIfInBounds_self, hsz, if_true, Option.getD_some]
        rw [this]
        exact .v _
      · rw [if_neg hj]
        have : ((({ tmps := vs ++ Array.replicate (n - vs.size) undef, defers := [] } : Act).put (some k) x).tmps.getD j undef) = (vs ++ Array.replicate (n - vs.size) undef).getD j undef := by
          simp only [Act.put, Array.getD_eq_getD_getElem?, Array.getElem?_setIfInBounds_ne hj]
        rw [this]
        exact reps_tmps hr hn j
  have hbeh : ∀ (c' : Frame), c' = { c₀ with mode := u' } → rest.wpS P (bodyPostS P fn c₀ cs fun e m w' => m = u' ∧ (∃ v, e = .returned v) ∧ ∃ β', Inv base w' H' β' ∧ Stp base w H β w' H' β') (({ tmps := vs ++ Array.replicate (fn.ntmps - vs.size) undef, defers := [] } : Act).put o.dst x) (c' :: cs) w := fun c' hc' => by
    subst hc'
    refine wpS_of_wp (wp_mono (h base w β hI _ w (hsim _ rfl)) fun e a' w' hl => ?_)
    have hgo : ∀ σ, σ.H = H' → Sim ⟨base, n, w, H, β, hI, []⟩ σ a' w' → bodyPostS P fn c₀ cs (fun e m w' => m = u' ∧ (∃ v, e = .returned v) ∧ ∃ β', Inv base w' H' β' ∧ Stp base w H β w' H' β') .ret a' ({ c₀ with mode := u' } :: cs) w' := fun σ hσ ⟨β', hs⟩ => by
      subst hσ
      exact ⟨hs.defers, u', rfl, .tuple #[], by simp [results, hres], rfl, ⟨_, rfl⟩, β', hs.inv, hs.stp⟩
    cases e with
    | normal => obtain ⟨σ, ⟨_, h2⟩, hs⟩ := hl; exact hgo σ h2 hs
    | ret => obtain ⟨σ, ⟨_, h2⟩, hs⟩ := hl; exact hgo σ h2 hs
    | exit id => obtain ⟨σ, ⟨h1, _⟩, _⟩ := hl; rcases h1 with h1 | h1 <;> cases h1
    | goto l => obtain ⟨σ, ⟨h1, _⟩, _⟩ := hl; rcases h1 with h1 | h1 <;> cases h1
    | panic c => obtain ⟨σ, r, v, β', ⟨h1, _⟩, _⟩ := hl; rcases h1 with h1 | h1 <;> cases h1
    | outgrown => exact hl.elim
  have hrange : List.range (#[o] : Array Oper).size = [0] := rfl
  rw [hrange]
  have hw : Region.wanted o (yielded #[o] (vs ++ Array.replicate (fn.ntmps - vs.size) undef)) = true := by unfold Region.wanted; rw [hg]
  simp only [wpOpsS, List.getElem?_toArray, List.getElem?_cons_zero, hw, if_true, hrun]
  cases hu with
  | ret =>
    have hrec : recoverD (c₀ :: cs) = none := by simp [recoverD, hc]
    rw [hrec]
    exact hbeh c₀ (by rw [← hc])
  | pan =>
    have hrec : recoverD (c₀ :: cs) = some (x, { c₀ with mode := .panicking [{ v := x, recovered := true }] } :: cs) := by simp [recoverD, hc]
    rw [hrec]
    exact hbeh _ rfl

/-- What is asked where the body ends, of a function with a closure that is called then. -/
def dQ (P : Program) (E : Ent) (fd : FuncId) (caps : List AV) (rs : List ResultVar) (K : Out → List Box → Prop) : AExit → ASt → Prop
  | .normal, σ => ∃ H', DSpec P fd caps .returning .returning σ.H H' ∧ ∃ r, ares P σ.tmps H' rs = some r ∧ Fin E r H' fun r H => K (.ret r) H
  | .ret, σ => ∃ H', DSpec P fd caps .returning .returning σ.H H' ∧ ∃ r, ares P σ.tmps H' rs = some r ∧ Fin E r H' fun r H => K (.ret r) H
  | .panic r, σ => ∃ x H', r = .v x ∧ DSpec P fd caps (.panicking [{ v := x, recovered := false }]) (.panicking [{ v := x, recovered := true }]) σ.H H' ∧ ∃ r, ares P σ.tmps H' rs = some r ∧ Fin E r H' fun r H => K (.ret r) H
  | _, _ => False

theorem acall_bodyD {P : Program} {base : Nat} {f fd : FuncId} {fn : Func} {x rest : Code} {id k : Nat} {o1 o2 : Oper} {ca : Array Operand} {args : List AV} {H H1 : List Box} {K : Out → List Box → Prop} {n : Nat} {rs : List ResultVar} {l1 : List (Nat × AV)}
    (hf : P.funcs[f]? = some fn) (hb : fn.body = some (.seq x (.seq (.region id #[o1, o2] false) rest))) (hen : enters P f) (hnt : fn.ntmps = n) (hrs : fn.results = rs.toArray) (hn : args.length ≤ n)
    (h1 : o1.op = .makeFunc (.func fd) #[] ca) (h1d : o1.dst = some k) (h1g : o1.guard = none) (h2 : o2.op = .defer { callee := .value (.tmp k), args := #[], argTypes := #[] }) (h2d : o2.dst = none) (h2g : o2.guard = none) (hk : k < n) (hed : enters P fd)
    (hx : ∀ (w : World) (β : Pl) (hI : Inv base w H β), AWP P ⟨base, n, w, H, β, hI, []⟩ x (fun e σ => e = .normal ∧ σ = ⟨l1, H1⟩) ⟨number 0 args, H⟩)
    (h : ∀ (w0 : World) (β0 : Pl) (hI0 : Inv base w0 H β0) (w : World) (β : Pl) (hI : Inv base w H1 β) (ds : List Deferred), AWP P ⟨base, n, w, H1, β, hI, ds⟩ rest (dQ P ⟨base, n, w0, H, β0, hI0, []⟩ fd (acaps (aeval l1) ca) rs K) ⟨(k, .fn fd (acaps (aeval l1) ca)) :: l1, H1⟩) : acall P base f args H K := by
  refine fun w0 β0 vs hI0 hr => .inl ⟨hen vs w0, calls_of_wp_defers hf hb ?_⟩
  have hsim : Sim ⟨base, n, w0, H, β0, hI0, []⟩ ⟨number 0 args, H⟩ { tmps := vs ++ Array.replicate (fn.ntmps - vs.size) undef, defers := [] } w0 :=
    ⟨β0, rfl, by rw [hnt]; have := hr.1; simp; omega, hI0, Stp.refl _ _ _, fun j => by rw [hnt]; exact reps_tmps hr hn j⟩
  refine wp_seq (wp_mono (hx w0 β0 hI0 _ w0 hsim) fun e a1 w1 hl => ?_)
  have hrl : fn.results.toList = rs := by rw [hrs]
  cases e with
  | exit id => obtain ⟨σ, ⟨h1, _⟩, _⟩ := hl; cases h1
  | goto l => obtain ⟨σ, ⟨h1, _⟩, _⟩ := hl; cases h1
  | ret => obtain ⟨σ, ⟨h1, _⟩, _⟩ := hl; cases h1
  | panic c => obtain ⟨σ, r, v, β', ⟨h1, _⟩, _⟩ := hl; cases h1
  | outgrown => exact hl.elim
  | normal =>
    obtain ⟨σ, ⟨_, rfl⟩, β1, hs⟩ := hl
    have hs1 := hs.stp
    dsimp only at hs1
    refine wp_seq (wp_region_list ?_)
    -- the closure is made
    have hA : ∀ y, Rep w1 H1 β1 (aeval l1 y) (a1.eval y) := fun y => hs.eval y
    have hcaps : Reps w1 H1 β1 (acaps (aeval l1) ca) (ca.map a1.eval) := by
      refine ⟨by simp [acaps], fun i c y hc hy => ?_⟩
      simp only [acaps, List.getElem?_map, Array.getElem?_toList] at hc
      simp only [Array.getElem?_map] at hy
      cases hca : ca[i]? with
      | none => rw [hca] at hc; cases hc
      | some z =>
        rw [hca] at hc hy
        injection hc with hc; injection hy with hy
        subst hc; subst hy
        exact hA z
    have hrun1 : (execOp a1.eval o1).run P w1 = .ok (.value (.func (.func fd) #[] (ca.map a1.eval))) w1 := by
      simp [execOp, h1, Instr.makeFunc]
    have hw1 : ∀ y, Region.wanted o1 y = true := fun y => by unfold Region.wanted; rw [h1g]
    have hw2 : ∀ y, Region.wanted o2 y = true := fun y => by unfold Region.wanted; rw [h2g]
    have hsz : a1.tmps.size = n := hs.size
    have hev : (a1.put o1.dst (.func (.func fd) #[] (ca.map a1.eval))).eval (.tmp k) = .func (.func fd) #[] (ca.map a1.eval) := by
      rw [h1d]
      show (a1.put (some k) _).tmps.getD k undef = _
      simp [Act.put, hsz, hk]
    have hrun2 : (execOp (a1.put o1.dst (.func (.func fd) #[] (ca.map a1.eval))).eval o2).run P w1 = .ok (.defer { target := .fn (.func fd) (ca.map a1.eval), args := #[] }) w1 := by
      simp [execOp, h2, resolve, Deferred.ofValue, hev]
    have e12 : (#[o1, o2] : Array Oper).toList = [o1, o2] := rfl
    rw [e12]
    simp only [wpList, hw1, hw2, if_true]
    refine .inl ?_
    unfold Oper.wp
    rw [hrun1, Oper.upon_value]
    refine .inl ?_
    rw [hrun2, Oper.upon_defer, h2d]
    generalize hd : ({ target := .fn (.func fd) (ca.map a1.eval), args := #[] } : Deferred) = d
    generalize ha2 : ({ a1.put o1.dst (.func (.func fd) #[] (ca.map a1.eval)) with defers := d :: (a1.put o1.dst (.func (.func fd) #[] (ca.map a1.eval))).defers } : Act) = a2
    show Exit.then (rest.wp P _) _ .normal a2 w1
    have hinv1 : Inv base w1 H1 β1 := hs.inv
    have hsim2 : Sim ⟨base, n, w1, H1, β1, hinv1, [d]⟩ ⟨(k, .fn fd (acaps (aeval l1) ca)) :: l1, H1⟩ a2 w1 := by
      have hp := hs.put (some k) hk hinv1 (Stp.refl _ _ _) (.fn fd _ _ hcaps.1 hcaps.2)
      have hdf := hp.defers
      rw [h1d] at ha2
      subst ha2
      exact ⟨β1, by show d :: _ = _; rw [hdf], hp.size, hinv1, Stp.refl _ _ _, hp.tmps⟩
    refine wp_mono (h w0 β0 hI0 w1 β1 hinv1 [d] a2 w1 hsim2) fun e a' w' hl => ?_
    have hgo : ∀ (σ : ASt) (H' : List Box) (u u' : FrameMode) (β' : Pl) (r : AV), SimB ⟨base, n, w1, H1, β1, hinv1, [d]⟩ σ β' a' w' → u ≠ .run → settle u' = .returning → DSpec P fd (acaps (aeval l1) ca) u u' σ.H H' → ares P σ.tmps H' rs = some r →
        Fin ⟨base, n, w0, H, β0, hI0, []⟩ r H' (fun r H => K (.ret r) H) → Leaves P fn a'.tmps (fun e w' => ∃ out H' β', K out H' ∧ EndRep w' H' β' e out ∧ Inv base w' H' β' ∧ Stp base w0 H β0 w' H' β') a'.defers u w' := fun σ H' u u' β' r hs' hu hu' hD hres hfin => by
      rw [hs'.defers]
      subst hd
      refine ⟨hu, .func fd, ca.map a1.eval, fd, ca.map a1.eval, rfl, ?_, ?_⟩
      · have := hed (ca.map a1.eval) w'
        simpa [invoke] using this
      · refine (hD base w' β' (ca.map a1.eval) hs'.inv ⟨hcaps.1, fun i c y hc hy => (hcaps.2 i c y hc hy).stp hs'.stp⟩).mono ?_
        rintro e m w2 ⟨rfl, ⟨v, rfl⟩, β2, g1, g2⟩
        show Leaves P fn a'.tmps _ [] (settle m) w2
        rw [hu']
        have hsb : SimB ⟨base, n, w0, H, β0, hI0, a'.defers⟩ ⟨σ.tmps, H'⟩ β2 a' w2 := ⟨rfl, hs'.size, g1, (hs1.trans hs'.stp).trans g2, fun j => (hs'.tmps j).stp g2⟩
        obtain ⟨v', q1, q2⟩ := ares_run (fn := fn) hsb (by rw [hrl]; exact hres)
        obtain ⟨r', H'', hsh, hK⟩ := hfin
        obtain ⟨β3, q3, q4, q5⟩ := hsh w2 β2 v' g1 hsb.stp q2
        exact ⟨v', q1, .ret r', H'', β3, hK, q5, q3, q4⟩
    cases e with
    | normal =>
      obtain ⟨σ, ⟨H', hD, r, q1, q2⟩, β', hs'⟩ := hl
      exact hgo σ H' _ _ β' r hs' (by simp) rfl hD q1 q2
    | ret =>
      obtain ⟨σ, ⟨H', hD, r, q1, q2⟩, β', hs'⟩ := hl
      exact hgo σ H' _ _ β' r hs' (by simp) rfl hD q1 q2
    | panic c =>
      obtain ⟨σ, r, v, β', ⟨x, H', rfl, hD, r', q1, q2⟩, rfl, hs', hrep⟩ := hl
      cases hrep
      exact hgo σ H' _ _ β' r' hs' (by simp) rfl hD q1 q2
    | exit id => obtain ⟨σ, h, _⟩ := hl; exact h.elim
    | goto l => obtain ⟨σ, h, _⟩ := hl; exact h.elim
    | outgrown => exact hl.elim

end Go.Proofs.YtjkdahpoalnjjaaDoor.VL

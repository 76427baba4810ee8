/- The value logic, part 10d: regions that draw their order, in which operations change boxes or make new ones: each tells which box it changes; what others may change beside it is anything to it. -/
import Derived.Test.YtnlmdeeadldgmaaGreatDoorZG13
set_option linter.unusedVariables false
set_option linter.unusedSimpArgs false
namespace Go.Proofs.YtnlmdeeadldgmaaGreatDoor.VL
open Go Go.RowKit Go.Lib

/-- What an operation does to the boxes: nothing; it changes box k; it makes box k, whose place is kept for it. -/
inductive Kd where
  | same
  | wr (k : Nat)
  | new (k : Nat)
def Kd.box : Kd → Option Nat
  | .same => none
  | .wr k => some k
  | .new k => some k
abbrev Sp := Kd × List Nat

instance : Inhabited Box := ⟨⟨[], 0, 0, false⟩⟩

/-- Boxes M are whatever f says. -/
def patch (f : Nat → Box) : List Nat → List Box → List Box
  | [], H => H
  | m :: M, H => patch f M (H.set m (f m))
theorem patch_length (f : Nat → Box) : ∀ (M : List Nat) (H : List Box), (patch f M H).length = H.length
  | [], _ => rfl
  | m :: M, H => by rw [patch, patch_length f M]; simp
theorem patch_get (f : Nat → Box) : ∀ (M : List Nat) (H : List Box) (k : Nat), (patch f M H)[k]? = if k ∈ M ∧ k < H.length then some (f k) else H[k]?
  | [], _, _ => by simp [patch]
  | m :: M, H, k => by
    rw [patch, patch_get f M, List.length_set]
    by_cases hM : k ∈ M
    · by_cases hk : k < H.length
      · rw [if_pos ⟨hM, hk⟩, if_pos ⟨List.mem_cons_of_mem _ hM, hk⟩]
      · rw [if_neg (by omega), if_neg (by omega), List.getElem?_eq_none (by simp; omega), List.getElem?_eq_none (by omega)]
    · rw [if_neg (by simp [hM])]
      by_cases hkm : k = m
      · subst hkm
        by_cases hk : k < H.length
        · rw [if_pos ⟨by simp, hk⟩, List.getElem?_set_self hk]
        · rw [if_neg (by omega), List.getElem?_eq_none (by simp; omega), List.getElem?_eq_none (by omega)]
      · rw [List.getElem?_set_ne (Ne.symm hkm), if_neg (by simp [hkm, hM])]
theorem patch_congr {f : Nat → Box} {M : List Nat} {H H' : List Box} (hl : H'.length = H.length) (h : ∀ k, k ∉ M → H'[k]? = H[k]?) : patch f M H' = patch f M H := by
  apply List.ext_getElem?
  intro k
  rw [patch_get, patch_get, hl]
  split
  · rfl
  · rename_i hk
    by_cases hM : k ∈ M
    · have : ¬ k < H.length := fun hh => hk ⟨hM, hh⟩
      rw [List.getElem?_eq_none (by omega), List.getElem?_eq_none (by omega)]
    · exact h k hM
theorem patch_self (M : List Nat) (H : List Box) : patch (fun k => (H[k]?).getD default) M H = H := by
  apply List.ext_getElem?
  intro k
  rw [patch_get]
  split
  · rename_i hk
    rw [List.getElem?_eq_getElem hk.2]; rfl
  · rfl

def seto (H : List Box) : Option (Nat × Box) → List Box
  | none => H
  | some (k, b) => H.set k b
theorem seto_length (H : List Box) (u : Option (Nat × Box)) : (seto H u).length = H.length := by cases u <;> simp [seto]
theorem seto_off {H : List Box} {u : Option (Nat × Box)} {M : List Nat} (h : ∀ k b, u = some (k, b) → k ∈ M) (k : Nat) (hk : k ∉ M) : (seto H u)[k]? = H[k]? := by
  cases u with
  | none => rfl
  | some x =>
    obtain ⟨m, b⟩ := x
    have : m ≠ k := fun e => hk (e ▸ h m b rfl)
    exact List.getElem?_set_ne this
theorem seto_comm {H : List Box} {u v : Option (Nat × Box)} (h : ∀ k b k' b', u = some (k, b) → v = some (k', b') → k ≠ k') : seto (seto H u) v = seto (seto H v) u := by
  cases u with
  | none => rfl
  | some x =>
    cases v with
    | none => rfl
    | some y => exact List.set_comm _ _ (h _ _ _ _ rfl rfl)

section
variable {P : Program} {E : Ent} {ops : Array Oper} {md : Region.Mode} {H0 : List Box} {n : Nat} {sp : List Sp}

def hyield (P : Program) (E : Ent) (H : List Box) (T : Tmps) (o : Oper) (r : AV) (H' : List Box) : Prop :=
  match o.op with
  | .call { callee := .value f, args, .. } =>
    ∃ fid caps, feval T f = .fn fid caps ∧ acall P E.base fid (args.toList.map (fun x => unlit (feval T x)) ++ caps) H fun out H1 => out = .ret r ∧ H1 = H'
  | op => aop P o.type E.base (feval T) H op = some (r, H')

def hdo (P : Program) (E : Ent) (H0 : List Box) (n : Nat) (s : Sp) (N : List Box) (o : Oper) (r : AV) (u : Option (Nat × Box)) (T : Tmps) : Prop :=
  match s.1 with
  | .same => u = none ∧ ∀ f, hyield P E (H0 ++ patch f s.2 N) T o r (H0 ++ patch f s.2 N)
  | .wr k => ∃ b, u = some (k, b) ∧ ∀ f, hyield P E (H0 ++ patch f s.2 N) T o r (H0 ++ (patch f s.2 N).set k b)
  | .new k => n ≤ k ∧ (∃ bx, N[k]? = some bx ∧ bx.gen = 0) ∧ ((∃ t cs, o.op = .alloc t ∧ zeroCs P t = some cs ∧ r = .ptr (H0.length + k) 1 0 ∧ u = some (k, ⟨cs, 0, 1, false⟩)) ∨ (∃ sz, r = .sl (H0.length + k) 0 0 0 sz false ∧ u = none ∧ ∀ f, hyield P E (H0 ++ patch f s.2 N) T o .emp (H0 ++ patch f s.2 N)))

def HY (P : Program) (E : Ent) (ops : Array Oper) (H0 : List Box) (n : Nat) (s : Sp) (N : List Box) (o : Oper) (r : AV) (u : Option (Nat × Box)) (T : Tmps) : Prop :=
  dstOk E o.dst ∧ ((wantedF ops T o = some true ∧ hdo P E H0 n s N o r u T) ∨ (wantedF ops T o = some false ∧ r = .v undef ∧ u = none))

theorem HY.box {s : Sp} {N : List Box} {o : Oper} {r : AV} {u : Option (Nat × Box)} {T : Tmps} (h : HY P E ops H0 n s N o r u T) {k : Nat} {b : Box} (hu : u = some (k, b)) : s.1.box = some k := by
  rcases h.2 with ⟨_, h⟩ | ⟨_, _, h⟩
  · unfold hdo at h
    split at h
    · rw [h.1] at hu; cases hu
    · rename_i k' hs
      obtain ⟨b', e, _⟩ := h
      rw [e] at hu
      injection hu with hu
      injection hu with e1 e2
      rw [hs, ← e1]; rfl
    · rename_i k' hs
      rcases h with ⟨_, _, ⟨t, cs, _, _, _, e⟩ | ⟨_, _, e, _⟩⟩
      · rw [e] at hu
        injection hu with hu
        injection hu with e1 e2
        rw [hs, ← e1]; rfl
      · rw [e] at hu; cases hu
  · rw [h] at hu; cases hu

theorem HY.congr {s : Sp} {N N' : List Box} {o : Oper} {r : AV} {u : Option (Nat × Box)} {T T' : Tmps} (h : HY P E ops H0 n s N o r u T) (hc : ∀ t ∈ o.looksAt ops, T' t = T t)
    (hl : N'.length = N.length) (hN : ∀ k, k ∉ s.2 → N'[k]? = N[k]?) (hown : ∀ k, s.1.box = some k → k ∉ s.2) : HY P E ops H0 n s N' o r u T' := by
  have hop : ∀ x ∈ o.op.operands, feval T' x = feval T x := fun x hx => by
    cases x with
    | tmp t => exact hc t (by simp only [Oper.looksAt, List.mem_append, List.mem_filterMap]; exact .inl ⟨.tmp t, by simpa using hx, rfl⟩)
    | _ => rfl
  have hw : wantedF ops T' o = wantedF ops T o := by
    unfold wantedF
    split
    · rfl
    · rename_i j want hg
      have : yieldF ops T' j = yieldF ops T j := by
        unfold yieldF
        cases hd : (ops[j]?).bind (·.dst) with
        | none => rfl
        | some d =>
          have := hc d (by simp only [Oper.looksAt, hg, List.mem_append]; exact .inr (by rw [hd]; simp))
          simp only [this]
      rw [this]
  have hq : ∀ {r : AV} (X Y : List Box), hyield P E X T o r Y → hyield P E X T' o r Y := fun {r} X Y hq => by
    unfold hyield at hq ⊢
    split at hq
    · rename_i f args ts ho
      obtain ⟨fid, caps, h1, h2⟩ := hq
      refine ⟨fid, caps, ?_, ?_⟩
      · rw [hop f (by simp [ho, Op.operands, Call.operands]), h1]
      · have : args.toList.map (fun x => unlit (feval T' x)) = args.toList.map (fun x => unlit (feval T x)) := List.map_congr_left fun x hx => congrArg unlit (hop x (by simp [ho, Op.operands, Call.operands]; exact .inr (by simpa using hx)))
        rw [this]; exact h2
    · rename_i ho
      rw [aop_congr (A := feval T') (A' := feval T) o.op hop]
      exact hq
  have hd : hdo P E H0 n s N o r u T → hdo P E H0 n s N' o r u T' := fun hd => by
    unfold hdo at hd ⊢
    split at hd
    · refine ⟨hd.1, fun f => ?_⟩
      rw [patch_congr hl hN]
      exact hq _ _ (hd.2 f)
    · obtain ⟨b, e, hf⟩ := hd
      refine ⟨b, e, fun f => ?_⟩
      rw [patch_congr hl hN]
      exact hq _ _ (hf f)
    · rename_i k hs
      obtain ⟨h1, h2, h3⟩ := hd
      refine ⟨h1, by rw [hN k (hown k (by rw [hs]; rfl))]; exact h2, h3.imp id fun ⟨sz, e1, e2, hf⟩ => ⟨sz, e1, e2, fun f => ?_⟩⟩
      rw [patch_congr hl hN]
      exact hq _ _ (hf f)
  exact ⟨h.1, h.2.imp (fun ⟨a, b⟩ => ⟨by rw [hw]; exact a, hd b⟩) fun ⟨a, b⟩ => ⟨by rw [hw]; exact a, b⟩⟩

def spAt (sp : List Sp) (i : Nat) : Sp := (sp[i]?).getD (.same, [])
def hOp (P : Program) (E : Ent) (ops : Array Oper) (H0 : List Box) (n : Nat) (sp : List Sp) (i : Nat) (K : Tmps → List Box → Prop) (T : Tmps) (N : List Box) : Prop :=
  match ops[i]? with
  | none => K T N
  | some o => ∃ r u, HY P E ops H0 n (spAt sp i) N o r u T ∧ K (fput T o.dst r) (seto N u)
theorem hOp_mono {i : Nat} {T : Tmps} {N : List Box} {K K' : Tmps → List Box → Prop} (h : ∀ T N, K T N → K' T N) (hh : hOp P E ops H0 n sp i K T N) : hOp P E ops H0 n sp i K' T N := by
  unfold hOp at *
  split
  · exact h _ _ (by simpa [*] using hh)
  · rename_i o ho
    simp only [ho] at hh
    obtain ⟨r, u, h1, h2⟩ := hh
    exact ⟨r, u, h1, h _ _ h2⟩
theorem HY.hOp {i : Nat} {o : Oper} {r : AV} {u : Option (Nat × Box)} {T : Tmps} {N : List Box} (hi : ops[i]? = some o) (hy : HY P E ops H0 n (spAt sp i) N o r u T) {K : Tmps → List Box → Prop} (h : K (fput T o.dst r) (seto N u)) : hOp P E ops H0 n sp i K T N := by
  unfold VL.hOp
  simp only [hi]
  exact ⟨r, u, hy, h⟩

def ownOk (a : Sp) : Bool := match a.1.box with | some k => !a.2.contains k | none => true
def inOk (a b : Sp) : Bool := match a.1.box with | some k => b.2.contains k && b.1.box != some k | none => true
def wmOk (a b : Sp) : Bool := ownOk a && ownOk b && inOk a b && inOk b a
theorem ownOk_spec {a : Sp} (h : ownOk a = true) (k : Nat) (hk : a.1.box = some k) : k ∉ a.2 := by
  unfold ownOk at h
  rw [hk] at h
  simpa using h
theorem inOk_spec {a b : Sp} (h : inOk a b = true) (k : Nat) (hk : a.1.box = some k) : k ∈ b.2 ∧ b.1.box ≠ some k := by
  unfold inOk at h
  rw [hk] at h
  simpa using h

theorem hOp_put {j : Nat} {oi oj : Oper} {si : Sp} {r : AV} {u : Option (Nat × Box)} (hj : ops[j]? = some oj) (hap : oi.apart ops oj = true) (hwm : wmOk si (spAt sp j) = true) {K : Tmps → List Box → Prop} {T : Tmps} {N : List Box}
    (hy : HY P E ops H0 n si N oi r u T) (h : hOp P E ops H0 n sp j K (fput T oi.dst r) (seto N u)) : hOp P E ops H0 n sp j (fun T' N' => HY P E ops H0 n si N' oi r u T' ∧ K (fput T' oi.dst r) (seto N' u)) T N := by
  obtain ⟨h1, h2, h3⟩ := Oper.apart_spec hap
  simp only [wmOk, Bool.and_eq_true] at hwm
  obtain ⟨⟨⟨w1, w2⟩, w3⟩, w4⟩ := hwm
  unfold hOp at *
  simp only [hj] at *
  obtain ⟨r', u', hu, hk⟩ := h
  have hyu : ∀ k b, u = some (k, b) → k ∈ (spAt sp j).2 := fun k b e => (inOk_spec w3 k (hy.box e)).1
  have hyu' : ∀ k b, u' = some (k, b) → k ∈ si.2 := fun k b e => (inOk_spec w4 k (hu.box e)).1
  refine ⟨r', u', hu.congr (fun t ht => (fput_looks h1 t ht).symm) (by rw [seto_length]) (fun k hk => (seto_off hyu k hk).symm) (ownOk_spec w2),
    hy.congr (fput_looks h3) (by rw [seto_length]) (fun k hk => seto_off hyu' k hk) (ownOk_spec w1), ?_⟩
  rw [← fput_comm T r r' h2, seto_comm fun k b k' b' e e' hkk => by
    have := (inOk_spec w3 k (hy.box (by subst hkk; exact e'))).2
    subst hkk
    exact this (hu.box e)]
  exact hk

def wpAnyH (P : Program) (E : Ent) (md : Region.Mode) (ops : Array Oper) (H0 : List Box) (n : Nat) (sp : List Sp) (Q : Tmps → List Box → Prop) : Nat → Array Bool → Tmps → List Box → Prop
  | 0, listed, T, N => Region.ready md ops listed = [] ∧ Q T N
  | fuel + 1, listed, T, N =>
    (Region.ready md ops listed = [] → Q T N) ∧
    ∀ i ∈ Region.ready md ops listed, hOp P E ops H0 n sp i (wpAnyH P E md ops H0 n sp Q fuel (listed.setIfInBounds i true)) T N

/-- Those that wait for i. -/
def descL (md : Region.Mode) (ops : Array Oper) : List Nat → List Nat → List Nat
  | [], D => D
  | j :: l, D => descL md ops l (if D.any (fun u => decide (u < j) && Region.waitsFor md ops j u) = true then j :: D else D)
def desc (md : Region.Mode) (ops : Array Oper) (i : Nat) : List Nat := descL md ops (List.range ops.size) [i]
theorem descL_spec {i : Nat} : ∀ (l D : List Nat), (∀ j, j ∈ D → j = i ∨ ∃ u, u ∈ D ∧ u < j ∧ Region.waitsFor md ops j u = true) →
    ∀ j, j ∈ descL md ops l D → j = i ∨ ∃ u, u ∈ descL md ops l D ∧ u < j ∧ Region.waitsFor md ops j u = true
  | [], D, h => h
  | x :: l, D, h => by
    rw [descL]
    refine descL_spec l _ fun j hj => ?_
    split at hj
    · rename_i hx
      rw [if_pos hx]
      rcases List.mem_cons.1 hj with rfl | hj
      · obtain ⟨u, hu, h2⟩ := List.any_eq_true.1 hx
        simp only [Bool.and_eq_true, decide_eq_true_eq] at h2
        exact .inr ⟨u, List.mem_cons_of_mem _ hu, h2⟩
      · exact (h j hj).imp id fun ⟨u, hu, h2⟩ => ⟨u, List.mem_cons_of_mem _ hu, h2⟩
    · rename_i hx
      rw [if_neg hx]
      exact h j hj
theorem desc_listed {i : Nat} {listed : Array Bool} (inv : HeadInv md ops ops.size listed) : ∀ (j : Nat), j ∈ desc md ops i → listed.getD j false = true → listed.getD i false = true := by
  intro j
  induction j using Nat.strongRecOn with
  | _ j ih =>
    intro hj hl
    rcases descL_spec (i := i) (List.range ops.size) [i] (fun j hj => .inl (by simpa using hj)) j hj with rfl | ⟨u, hu, hlt, hw⟩
    · exact hl
    · obtain ⟨oj, hoj, e, he, hb, hon⟩ := Region.waitsFor_spec hw
      have := inv.closed j oj hoj hl e he hb
      rw [hon] at this
      exact ih u hlt hu this
theorem desc_waits {i j : Nat} {listed : Array Bool} (inv : HeadInv md ops ops.size listed) (hd : j ∈ desc md ops i) (hne : j ≠ i) (hi : listed.getD i false = false) : j ∉ Region.ready md ops listed := by
  intro hr
  rcases descL_spec (i := i) (List.range ops.size) [i] (fun j hj => .inl (by simpa using hj)) j hd with rfl | ⟨u, hu, hlt, hw⟩
  · exact hne rfl
  · obtain ⟨oj, hoj, e, he, hb, hon⟩ := Region.waitsFor_spec hw
    obtain ⟨_, oj', hoj', hall⟩ := mem_ready.1 hr
    have : oj' = oj := Option.some.inj (hoj'.symm.trans hoj)
    subst this
    have hl := hall e he hb
    rw [hon] at hl
    rw [desc_listed inv u hu hl] at hi
    cases hi

theorem wpAnyH_first {Q : Tmps → List Box → Prop} {i : Nat} {oi : Oper} {r : AV} {u : Option (Nat × Box)} (hi : ops[i]? = some oi)
    (hp : ∀ j oj, i < j → ops[j]? = some oj → j ∈ desc md ops i ∨ (oi.apart ops oj = true ∧ wmOk (spAt sp i) (spAt sp j) = true)) :
    ∀ (fuel : Nat) (listed : Array Bool) (T : Tmps) (N : List Box), HeadInv md ops ops.size listed → (∀ j, listed.getD j true = false → j ≠ i → i < j) →
      i ∈ Region.ready md ops listed → HY P E ops H0 n (spAt sp i) N oi r u T →
      wpAnyH P E md ops H0 n sp Q fuel (listed.setIfInBounds i true) (fput T oi.dst r) (seto N u) → wpAnyH P E md ops H0 n sp Q (fuel + 1) listed T N := by
  intro fuel
  induction fuel with
  | zero =>
    intro listed T N inv hlt hr hy HH
    refine ⟨fun h => (by rw [h] at hr; cases hr), fun j hj => ?_⟩
    by_cases hji : j = i
    · subst hji; exact hy.hOp hi HH
    · have := ready_mono hj hji
      rw [HH.1] at this
      cases this
  | succ fuel ih =>
    intro listed T N inv hlt hr hy HH
    refine ⟨fun h => (by rw [h] at hr; cases hr), fun j hj => ?_⟩
    by_cases hji : j = i
    · subst hji; exact hy.hOp hi HH
    · have h1 := HH.2 j (ready_mono hj hji)
      obtain ⟨hjun, oj, hoj, hall⟩ := mem_ready.1 hj
      have hiun := (mem_ready.1 hr).1
      have hij := hlt j hjun hji
      obtain ⟨hap, hwm⟩ : oi.apart ops oj = true ∧ wmOk (spAt sp i) (spAt sp j) = true := by
        rcases hp j oj hij hoj with hd | h
        · exact absurd hj (desc_waits inv hd hji (getD_both hiun))
        · exact h
      have h2 := hOp_put hoj hap hwm hy h1
      have hjlt : j < ops.size := (Array.getElem?_eq_some_iff.1 hoj).1
      refine hOp_mono (fun T' N' h3 => ih (listed.setIfInBounds j true) T' N' (inv.set hj hjlt) (fun k hk hki => ?_) (ready_mono hr (Ne.symm hji)) h3.1 ?_) h2
      · by_cases hjk : j = k
        · subst hjk; exact hij
        · rw [getD_set_ne true hjk] at hk; exact hlt k hk hki
      · rw [Array.setIfInBounds_comm _ _ hji]
        exact h3.2

/-- The text's order. -/
def wpHQ (P : Program) (E : Ent) (ops : Array Oper) (H0 : List Box) (n : Nat) (Q : Tmps → List Box → Prop) : List Oper → List Sp → Tmps → List Box → Prop
  | [], _, T, N => Q T N
  | o :: rest, ss, T, N => ∃ r u, HY P E ops H0 n (ss.headD (.same, [])) N o r u T ∧ wpHQ P E ops H0 n Q rest ss.tail (fput T o.dst r) (seto N u)

def pairB (md : Region.Mode) (ops : Array Oper) (sp : List Sp) (i : Nat) (oi : Oper) (D : List Nat) : List Nat → Bool
  | [] => true
  | j :: l => (Nat.ble j i || (D.contains j || (match ops[j]? with | some oj => oi.apart ops oj && wmOk (spAt sp i) (spAt sp j) | none => true))) && pairB md ops sp i oi D l
def holeFrom (md : Region.Mode) (ops : Array Oper) (sp : List Sp) : Nat → Nat → Array Bool → Bool
  | 0, _, listed => (Region.ready md ops listed).isEmpty
  | f + 1, k, listed => (Region.ready md ops listed).contains k && ((match ops[k]? with | some ok => pairB md ops sp k ok (desc md ops k) (List.range ops.size) | none => true) && holeFrom md ops sp f (k + 1) (listed.setIfInBounds k true))
def holeB (md : Region.Mode) (ops : Array Oper) (sp : List Sp) : Bool := holeFrom md ops sp ops.size 0 (Array.replicate ops.size false)
theorem pairB_spec {i : Nat} {oi : Oper} {D : List Nat} : ∀ (l : List Nat), pairB md ops sp i oi D l = true → ∀ j oj, j ∈ l → i < j → ops[j]? = some oj → j ∈ D ∨ (oi.apart ops oj = true ∧ wmOk (spAt sp i) (spAt sp j) = true)
  | [], _, j, oj, hj, _, _ => by cases hj
  | x :: l, h, j, oj, hj, hij, hoj => by
    simp only [pairB, Bool.and_eq_true] at h
    rcases List.mem_cons.1 hj with rfl | hj
    · have h1 := h.1
      rw [hoj] at h1
      simp only [Bool.or_eq_true, Bool.and_eq_true, List.contains_iff_mem] at h1
      rcases h1 with h1 | h1
      · have := Nat.le_of_ble_eq_true h1; omega
      · exact h1
    · exact pairB_spec l h.2 j oj hj hij hoj

theorem wpAnyH_lex {Q : Tmps → List Box → Prop} : ∀ (l : List Oper) (k : Nat) (listed : Array Bool) (T : Tmps) (N : List Box), (∀ j, l[j]? = ops[k + j]?) → HeadInv md ops ops.size listed → (∀ j, listed.getD j true = false → k ≤ j) →
    holeFrom md ops sp l.length k listed = true → wpHQ P E ops H0 n Q l (sp.drop k) T N → wpAnyH P E md ops H0 n sp Q l.length listed T N
  | [], _, listed, _, _, _, _, _, hB, h => ⟨by simpa [holeFrom] using hB, h⟩
  | o :: l, k, listed, T, N, hl, inv, hun, hB, h => by
    have h0 : ops[k]? = some o := by simpa using (hl 0).symm
    have hk : k < ops.size := (Array.getElem?_eq_some_iff.1 h0).1
    simp only [List.length_cons, holeFrom, Bool.and_eq_true, h0] at hB
    obtain ⟨hr, hp, hB'⟩ := hB
    have hr' : k ∈ Region.ready md ops listed := by simpa using hr
    obtain ⟨r, u, hy, hK⟩ := h
    have hsp : (sp.drop k).headD (.same, []) = spAt sp k := by
      unfold spAt
      rw [List.headD_eq_head?_getD, List.head?_drop]
    rw [hsp] at hy
    rw [List.tail_drop] at hK
    refine wpAnyH_first h0 (fun j oj hij hoj => pairB_spec _ hp j oj (List.mem_range.2 (Array.getElem?_eq_some_iff.1 hoj).1) hij hoj) l.length listed T N inv (fun j hj hne => by have := hun j hj; omega) hr' hy
      (wpAnyH_lex l (k + 1) _ _ _ (fun j => by have := hl (j + 1); simpa [Nat.add_assoc, Nat.add_comm 1 j] using this) (inv.set hr' hk) (fun j hj => ?_) hB' hK)
    by_cases hjk : k = j
    · subst hjk
      have : (listed.setIfInBounds k true).getD k true = true := by
        rw [Array.getD_eq_getD_getElem?, Array.getElem?_setIfInBounds]
        simp only [if_pos]
        split <;> rfl
      rw [this] at hj
      cases hj
    · rw [getD_set_ne true hjk] at hj
      have := hun j hj
      omega

theorem SimF.put' {H H' : List Box} {T : Tmps} {β β' : Pl} {a : Act} {w w' : World} (h : SimF E T H β a w) (d : Option Tmp) (hd : dstOk E d) {r : AV} {v : Value} (hI : Inv E.base w' H' β') (hs : Stp E.base w H β w' H' β') (hr : Rep w' H' β' r v) :
    SimF E (fput T d r) H' β' (a.put d v) w' := by
  refine ⟨?_, ?_, hI, h.stp.trans hs, fun k => ?_⟩
  · cases d <;> exact h.defers
  · cases d with
    | none => exact h.size
    | some d => simp [Act.put, h.size]
  · cases d with
    | none => exact (h.tmps k).stp hs
    | some d =>
      simp only [dstOk] at hd
      by_cases hk : d = k
      · subst hk
        have : (a.put (some d) v).tmps.getD d undef = v := by
          simp [Act.put, h.size, hd]
        rw [this]
        simpa [fput] using hr
      · have : (a.put (some d) v).tmps.getD k undef = a.tmps.getD k undef := by
          simp [Act.put, Array.getElem?_setIfInBounds_ne hk]
        rw [this]
        have h2 : fput T (some d) r k = T k := by simp [fput, hk]
        rw [h2]
        exact (h.tmps k).stp hs

/-- Places that are kept have no memory yet. -/
def Hol (H0 : List Box) (n : Nat) (N : List Box) (β : Pl) : Prop := ∀ p bx, n ≤ p → N[p]? = some bx → bx.gen = 0 → β (H0.length + p) = none

theorem Hol.stp {base : Nat} {N N' : List Box} {β β' : Pl} {w w' : World} (h : Hol H0 n N β) (hs : Stp base w (H0 ++ N) β w' (H0 ++ N') β') (hl : N'.length = N.length) : Hol H0 n N' β' := by
  intro p bx hn hp hg
  have hp' := (List.getElem?_eq_some_iff.1 hp).1
  have hN : N[p]? = some (N[p]'(by omega)) := List.getElem?_eq_getElem _
  obtain ⟨bx', h1, h2, h3⟩ := hs.ids (H0.length + p) (N[p]'(by omega)) (by rw [List.getElem?_append_right (by omega)]; simp)
  rw [List.getElem?_append_right (by omega), Nat.add_sub_cancel_left, hp] at h1
  obtain rfl := Option.some.inj h1
  rw [h3 (by omega)]
  exact h p _ hn hN (by omega)

theorem hyield_sound {T : Tmps} {β : Pl} {a : Act} {w : World} {H H' : List Box} {o : Oper} {r : AV} {K' : Act → World → Prop} {Q' : Exit → Act → World → Prop} (hs : SimF E T H β a w) (hd : dstOk E o.dst) (hq : hyield P E H T o r H')
    (hK : ∀ a' w' β', SimF E (fput T o.dst r) H' β' a' w' → Stp E.base w H β w' H' β' → K' a' w') : o.wp P a w K' Q' := by
  unfold Oper.wp
  unfold hyield at hq
  split at hq
  · rename_i f args ts hop
    obtain ⟨fid, caps, hf, hc⟩ := hq
    have hfr := hs.eval f
    rw [hf] at hfr
    generalize hv : a.eval f = fv at hfr
    cases hfr with
    | fn _ _ vs hl hr =>
      refine call_upon hop hv (hc w β _ hs.inv ⟨by simp [hl], fun i c x h1 h2 => ?_⟩) ?_ ?_ ?_
      · by_cases hi : i < args.size
        · rw [List.getElem?_append_left (by simpa using hi)] at h1
          rw [Array.getElem?_append_left (by simpa using hi)] at h2
          simp only [List.getElem?_map, Array.getElem?_toList, Array.getElem?_eq_getElem hi, Option.map_some, Option.some.injEq] at h1
          simp only [Array.getElem?_map, Array.getElem?_eq_getElem hi, Option.map_some, Option.some.injEq] at h2
          subst h1; subst h2
          exact unlit_rep (hs.eval _)
        · rw [List.getElem?_append_right (by simp; omega)] at h1
          rw [Array.getElem?_append_right (by simp; omega)] at h2
          simp only [List.length_map, Array.length_toList] at h1
          simp only [Array.size_map] at h2
          exact hr _ c x h1 h2
      · rintro v w' ⟨out, H', β', ⟨rfl, rfl⟩, k2, k3, k4⟩
        exact hK _ _ _ (hs.put' o.dst hd k3 k4 k2) k4
      · rintro c w' ⟨out, H', β', ⟨rfl, rfl⟩, k2, k3, k4⟩
        exact k2.elim
      · rintro w' ⟨out, H', β', ⟨rfl, rfl⟩, k2, k3, k4⟩
        exact k2.elim
  · obtain ⟨v, w', β', hrun, hI', hst, hr⟩ := aop_sound (P := P) hs.inv hs.eval hq
    rcases hrun with hrun | ⟨hrun, rfl⟩
    · rw [hrun, Oper.upon_value]
      exact hK _ _ _ (hs.put' o.dst hd hI' hst hr) hst
    · rw [hrun, Oper.upon_skip]
      exact hK _ _ _ (hs.put' o.dst hd hI' hst hr) hst

theorem SimF.weak {T : Tmps} {H : List Box} {β : Pl} {a : Act} {w : World} {dst : Option Tmp} {b sz : Nat} {bx : Box} (hs : SimF E (fput T dst .emp) H β a w) (hb : H[b]? = some bx) (hg : bx.gen = 0) : SimF E (fput T dst (.sl b 0 0 0 sz false)) H β a w :=
  ⟨hs.defers, hs.size, hs.inv, hs.stp, fun t => by
    have h := hs.tmps t
    cases dst with
    | none => exact h
    | some d =>
      by_cases ht : d = t
      · simp only [fput, if_pos ht] at h ⊢
        generalize a.tmps.getD t undef = x at h ⊢
        cases h with
        | emp a => exact rep_sl hb hg ⟨a, 0, rfl, Nat.le_refl _, by simp, fun hh => absurd hh (by omega)⟩
      · simp only [fput, if_neg ht] at h ⊢
        exact h⟩
theorem abuildSlice_emp {A A' : Operand → AV} {t : TypeId} {len : Nat} {ps : Array (Nat × Operand)} (h : abuildSlice P A t len ps = some .emp) : abuildSlice P A' t len ps = some .emp := by
  by_cases h0 : len = 0
  · subst h0
    unfold abuildSlice at h ⊢
    simpa only [reduceIte] using h
  · exfalso
    unfold abuildSlice at h
    split at h
    · rw [if_neg h0] at h
      split at h
      · obtain ⟨cs, _, h2⟩ := Option.bind_eq_some_iff.1 h
        split at h2
        · cases h2
        · cases h2
      · cases h
    · cases h
theorem alloc_at {base : Nat} {w : World} {H : List Box} {β : Pl} {ρ : Operand → Value} {o : Oper} {t : TypeId} {cs : List AV} {p : Nat} {bx : Box} (hI : Inv base w H β) (hp : H[p]? = some bx) (hg : bx.gen = 0) (hb : β p = none) (ho : o.op = .alloc t) (hz : zeroCs P t = some cs) :
    ∃ v w' β', (execOp ρ o).run P w = .ok (.value v) w' ∧ Inv base w' (H.set p ⟨cs, 0, 1, false⟩) β' ∧ Stp base w H β w' (H.set p ⟨cs, 0, 1, false⟩) β' ∧ Rep w' (H.set p ⟨cs, 0, 1, false⟩) β' (.ptr p 1 0) v ∧ ∀ q, q ≠ p → β' q = β q := by
  obtain ⟨z, h1, rfl, h0⟩ := zero_run hz w
  have hw := Wor.alloc w (.cells z.cells t)
  have hpl := (List.getElem?_eq_some_iff.1 hp).1
  obtain ⟨g1, g2⟩ := repl (w' := w.alloc (.cells z.cells t)) (bx' := ⟨z.cells.toList.map zcell, 0, 1, false⟩) (k' := w.heap.size) (s' := 0) hI hp hw (fun _ _ => False) (fun _ _ hh => hh.elim)
    (fun k x hk _ => alloc_cell w _ k x hk) ⟨hI.bse.le, by simp⟩ (Nat.zero_le _) (.inl (Nat.le_refl _)) (by rw [hg]; exact Nat.zero_le _) (by rw [hg]; intro h; cases h) (fun _ x => alloc_new_frozen w z.cells t x) (fun j c hj => by
      simp only [List.getElem?_map, Array.getElem?_toList, Option.map_eq_some_iff] at hj
      obtain ⟨y, hy, rfl⟩ := hj
      exact ⟨y, by rw [alloc_new, Nat.zero_add]; exact hy, h0 j y hy, rep_zcell y⟩)
  refine ⟨.pointer (some ⟨w.heap.size, 0, none⟩), _, _, ?_, g1, g2, ?_, fun q hq => upd_ne β _ hq⟩
  · simp [execOp, ho, Instr.alloc, h1, newVar, alloc_run]
  · exact .ptr _ _ _ _ ⟨z.cells.toList.map zcell, 0, 1, false⟩ (List.getElem?_set_self hpl) (Nat.le_refl _) ⟨_, rfl⟩ fun _ => ⟨_, _, upd_same _ _ _, rfl⟩

theorem wpOp_of_H {i : Nat} {T : Tmps} {N : List Box} {β : Pl} {a : Act} {w : World} {K : Tmps → List Box → Prop} {K' : Act → World → Prop} {Q' : Exit → Act → World → Prop} (hs : SimF E T (H0 ++ N) β a w) (hh : Hol H0 n N β)
    (hK : ∀ T N a w β, SimF E T (H0 ++ N) β a w → Hol H0 n N β → K T N → K' a w) (h : hOp P E ops H0 n sp i K T N) : wpOp P ops Q' i K' a w := by
  unfold hOp at h
  unfold wpOp
  split
  · rename_i ho; simp only [ho] at h; exact hK _ _ _ _ _ hs hh h
  · rename_i o ho
    simp only [ho] at h
    obtain ⟨r, u, ⟨hd, hy⟩, hk⟩ := h
    rcases hy with ⟨hw, hq⟩ | ⟨hw, rfl, rfl⟩
    · rw [if_pos (wantedF_sim hs hw)]
      left
      unfold hdo at hq
      split at hq
      · obtain ⟨rfl, hq⟩ := hq
        have := hq fun k => (N[k]?).getD default
        rw [patch_self] at this
        exact hyield_sound hs hd this fun a' w' β' s1 s2 => hK _ _ _ _ _ s1 (hh.stp s2 rfl) hk
      · rename_i k _
        obtain ⟨b, rfl, hq⟩ := hq
        have := hq fun k => (N[k]?).getD default
        rw [patch_self] at this
        exact hyield_sound hs hd this fun a' w' β' s1 s2 => hK _ _ _ _ _ s1 (hh.stp s2 (by simp)) hk
      · rename_i k _
        obtain ⟨h1, ⟨bx, h2, h3⟩, hq⟩ := hq
        have hpos : (H0 ++ N)[H0.length + k]? = some bx := by rw [List.getElem?_append_right (by omega), Nat.add_sub_cancel_left]; exact h2
        rcases hq with ⟨t, cs, h4, h5, rfl, rfl⟩ | ⟨sz, rfl, rfl, hq⟩
        rotate_left
        · have := hq fun k => (N[k]?).getD default
          rw [patch_self] at this
          exact hyield_sound hs hd this fun a' w' β' s1 s2 => hK _ _ _ _ _ (s1.weak hpos h3) (hh.stp s2 rfl) hk
        obtain ⟨v, w', β', r1, r2, r3, r4, r5⟩ := alloc_at (P := P) (ρ := a.eval) hs.inv hpos h3 (hh k bx h1 h2 h3) h4 h5
        have hset : (H0 ++ N).set (H0.length + k) ⟨cs, 0, 1, false⟩ = H0 ++ N.set k ⟨cs, 0, 1, false⟩ := by rw [List.set_append_right _ _ (by omega), Nat.add_sub_cancel_left]
        rw [hset] at r2 r3 r4
        unfold Oper.wp
        rw [r1, Oper.upon_value]
        exact hK _ _ _ _ _ (hs.put' o.dst hd r2 r3 r4) (hh.stp r3 (by simp)) hk
    · rw [if_neg (by rw [wantedF_sim hs hw]; simp)]
      exact hK _ _ _ _ _ (hs.put o.dst hd hs.inv (Stp.refl _ _ _) (.v _)) hh hk

theorem wpAny_of_H {Q : Tmps → List Box → Prop} {Q' : Exit → Act → World → Prop} (hQ : ∀ T N a w β, SimF E T (H0 ++ N) β a w → Q T N → Q' .normal a w) : ∀ (fuel : Nat) (listed : Array Bool) (T : Tmps) (N : List Box) (β : Pl) (a : Act) (w : World), SimF E T (H0 ++ N) β a w → Hol H0 n N β →
    wpAnyH P E md ops H0 n sp Q fuel listed T N → wpAny P md ops Q' fuel listed a w
  | 0, _, _, _, _, _, _, hw, _, h => ⟨h.1, hQ _ _ _ _ _ hw h.2⟩
  | fuel + 1, _, _, _, _, _, _, hw, hh, h => ⟨fun h0 => hQ _ _ _ _ _ hw (h.1 h0), fun i hi => wpOp_of_H hw hh (fun T N a w β hw' hh' hk => wpAny_of_H hQ fuel _ T N β a w hw' hh' hk) (h.2 i hi)⟩

def hole : Box := ⟨[], 0, 0, true⟩
theorem holes {T : Tmps} {H : List Box} {β : Pl} {a : Act} {w : World} (hs : SimF E T H β a w) : ∀ m, ∃ β', SimF E T (H ++ List.replicate m hole) β' a w ∧ ∀ i, i < m → β' (H.length + i) = none
  | 0 => ⟨β, by simpa using hs, fun i hi => by omega⟩
  | m + 1 => by
    obtain ⟨β', h1, h2⟩ := holes hs m
    obtain ⟨g1, g2⟩ := newv h1.inv 0 0 rfl
    have e : H ++ List.replicate m hole ++ [⟨[], 0, 0, true⟩] = H ++ List.replicate (m + 1) hole := by
      rw [List.replicate_succ', List.append_assoc]; rfl
    rw [e] at g1 g2
    have hlen : (H ++ List.replicate m hole).length = H.length + m := by simp
    refine ⟨_, ⟨h1.defers, h1.size, g1, h1.stp.trans g2, fun k => (h1.tmps k).stp g2⟩, fun i hi => ?_⟩
    rw [hlen]
    by_cases him : i = m
    · subst him; exact updn_same _ _
    · rw [updn_ne _ (by omega)]
      exact h2 i (by omega)

/-- One operation, on a list of slots. -/
def hone (P : Program) (E : Ent) (H0 : List Box) (n : Nat) (s : Sp) (o : Oper) (K : List (Nat × AV) → List Box → Prop) (N : List Box) (l : List (Nat × AV)) : Prop :=
  dstOk E o.dst ∧
  match s with
  | (.new k, _) => n ≤ k ∧ (match N[k]? with | some bx => bx.gen = 0 | none => False) ∧ match o.op with
    | .alloc t => match zeroCs P t with
      | some cs => K (put l o.dst (.ptr (H0.length + k) 1 0)) (N.set k ⟨cs, 0, 1, false⟩)
      | none => False
    | .buildSlice t len ps => match abuildSlice P (aeval l) t len ps, elemTy P t with
      | some .emp, some e => K (put l o.dst (.sl (H0.length + k) 0 0 0 (P.cellsOf e) false)) N
      | _, _ => False
    | _ => False
  | (.same, M) => match o.op with
    | .call { callee := .value f, args, .. } =>
      match aeval l f with
      | .fn fid caps => ∃ r, (∀ f', acall P E.base fid (args.toList.map (fun x => unlit (aeval l x)) ++ caps) (H0 ++ patch f' M N) (fun out H' => out = .ret r ∧ H' = H0 ++ patch f' M N)) ∧ K (put l o.dst r) N
      | _ => False
    | op => ∃ r, (∀ f, aop P o.type E.base (aeval l) (H0 ++ patch f M N) op = some (r, H0 ++ patch f M N)) ∧ K (put l o.dst r) N
  | (.wr k, M) => match o.op with
    | .call { callee := .value f, args, .. } =>
      match aeval l f with
      | .fn fid caps => ∃ r b, (∀ f', acall P E.base fid (args.toList.map (fun x => unlit (aeval l x)) ++ caps) (H0 ++ patch f' M N) (fun out H' => out = .ret r ∧ H' = H0 ++ (patch f' M N).set k b)) ∧ K (put l o.dst r) (N.set k b)
      | _ => False
    | op => ∃ r b, (∀ f, aop P o.type E.base (aeval l) (H0 ++ patch f M N) op = some (r, H0 ++ (patch f M N).set k b)) ∧ K (put l o.dst r) (N.set k b)
def hskip (E : Ent) (o : Oper) (K : List (Nat × AV) → List Box → Prop) (N : List Box) (l : List (Nat × AV)) : Prop := dstOk E o.dst ∧ K (put l o.dst (.v undef)) N
def hops (P : Program) (E : Ent) (ops : Array Oper) (H0 : List Box) (n : Nat) (Q : List (Nat × AV) → List Box → Prop) : List Oper → List Sp → List Box → List (Nat × AV) → Prop
  | [], _, N, l => Q l N
  | o :: rest, ss, N, l =>
    match o.guard with
    | none => hone P E H0 n (ss.headD (.same, [])) o (fun l N => hops P E ops H0 n Q rest ss.tail N l) N l
    | some (j, want) => match ayield ops l j with
      | some (some t) => Branch t want l (hone P E H0 n (ss.headD (.same, [])) o (fun l N => hops P E ops H0 n Q rest ss.tail N l) N) (hskip E o (fun l N => hops P E ops H0 n Q rest ss.tail N l) N)
      | some none => hskip E o (fun l N => hops P E ops H0 n Q rest ss.tail N l) N l
      | none => False

theorem hone_HY {s : Sp} {o : Oper} {K : List (Nat × AV) → List Box → Prop} {N : List Box} {l : List (Nat × AV)} (h : hone P E H0 n s o K N l) (hw : wantedF ops (lk l) o = some true) : ∃ r u, HY P E ops H0 n s N o r u (lk l) ∧ K (put l o.dst r) (seto N u) := by
  obtain ⟨hd, h⟩ := h
  obtain ⟨kd, M⟩ := s
  have hy : ∀ X Y r, (match o.op with
      | .call { callee := .value f, args, .. } => match aeval l f with
        | .fn fid caps => acall P E.base fid (args.toList.map (fun x => unlit (aeval l x)) ++ caps) X (fun out H' => out = .ret r ∧ H' = Y)
        | _ => False
      | op => aop P o.type E.base (aeval l) X op = some (r, Y)) → hyield P E X (lk l) o r Y := fun X Y r h => by
    unfold hyield
    split at h
    · rename_i f args ts ho
      split at h
      · rename_i fid caps hf
        exact ⟨fid, caps, by rw [feval_lk]; exact hf, by rw [feval_lk]; exact h⟩
      · exact h.elim
    · rename_i hno
      rw [feval_lk]; exact h
  cases kd with
  | same =>
    simp only at h
    split at h
    · rename_i f args ts ho
      split at h
      · rename_i fid caps hf
        obtain ⟨r, h1, h2⟩ := h
        refine ⟨r, none, ⟨hd, .inl ⟨hw, rfl, fun f' => hy _ _ _ ?_⟩⟩, h2⟩
        rw [ho]
        simp only [hf]
        exact h1 f'
      · exact h.elim
    · rename_i hno
      obtain ⟨r, h1, h2⟩ := h
      refine ⟨r, none, ⟨hd, .inl ⟨hw, rfl, fun f' => hy _ _ _ ?_⟩⟩, h2⟩
      split
      · rename_i f args ts ho
        exact absurd ho (hno f args ts)
      · exact h1 f'
  | wr k =>
    simp only at h
    split at h
    · rename_i f args ts ho
      split at h
      · rename_i fid caps hf
        obtain ⟨r, b, h1, h2⟩ := h
        refine ⟨r, some (k, b), ⟨hd, .inl ⟨hw, b, rfl, fun f' => hy _ _ _ ?_⟩⟩, h2⟩
        rw [ho]
        simp only [hf]
        exact h1 f'
      · exact h.elim
    · rename_i hno
      obtain ⟨r, b, h1, h2⟩ := h
      refine ⟨r, some (k, b), ⟨hd, .inl ⟨hw, b, rfl, fun f' => hy _ _ _ ?_⟩⟩, h2⟩
      split
      · rename_i f args ts ho
        exact absurd ho (hno f args ts)
      · exact h1 f'
  | new k =>
    simp only at h
    obtain ⟨h1, h2, h3⟩ := h
    split at h3
    · rename_i t ho
      split at h3
      · rename_i cs hz
        refine ⟨.ptr (H0.length + k) 1 0, some (k, ⟨cs, 0, 1, false⟩), ⟨hd, .inl ⟨hw, h1, ?_, .inl ⟨t, cs, ho, hz, rfl, rfl⟩⟩⟩, h3⟩
        split at h2
        · rename_i bx hb
          exact ⟨bx, hb, h2⟩
        · exact h2.elim
      · exact h3.elim
    · rename_i t len ps ho
      split at h3
      · rename_i e he hel
        refine ⟨.sl (H0.length + k) 0 0 0 (P.cellsOf e) false, none, ⟨hd, .inl ⟨hw, h1, ?_, .inr ⟨_, rfl, rfl, fun f' => hy _ _ _ ?_⟩⟩⟩, h3⟩
        · split at h2
          · rename_i bx hb
            exact ⟨bx, hb, h2⟩
          · exact h2.elim
        · rw [ho]
          have he' := abuildSlice_emp (A' := fun x => unlit (aeval l x)) he
          show (bif constParts ps then (aopU P o.type (fun x => unlit (aeval l x)) _ (.buildSlice t len ps)).map (relit E.base) else aopU P o.type (fun x => unlit (aeval l x)) _ (.buildSlice t len ps)) = _
          have hU : ∀ X, aopU P o.type (fun x => unlit (aeval l x)) X (.buildSlice t len ps) = some (.emp, X) := fun X => by
            show withH X (abuildSlice P _ t len ps) = _
            rw [he']; rfl
          rw [hU]
          cases constParts ps <;> rfl
      · exact h3.elim
    · exact h3.elim

theorem wpHQ_of_hops {Q : List (Nat × AV) → List Box → Prop} {Q' : Tmps → List Box → Prop} (hQ : ∀ l N, Q l N → Q' (lk l) N) : ∀ (os : List Oper) (ss : List Sp) (N : List Box) (l : List (Nat × AV)), hops P E ops H0 n Q os ss N l → wpHQ P E ops H0 n Q' os ss (lk l) N := by
  intro os
  induction os with
  | nil => intro ss N l h; exact hQ l N h
  | cons o rest ih =>
    intro ss N l h
    simp only [hops] at h
    split at h
    · rename_i hg
      obtain ⟨r, u, h1, h2⟩ := hone_HY (ops := ops) h (by simp [wantedF, hg])
      exact ⟨r, u, h1, by rw [fput_lk]; exact ih _ _ _ h2⟩
    · rename_i j want hg
      split at h
      · rename_i t hy
        by_cases ht : t = want
        · obtain ⟨r, u, h1, h2⟩ := hone_HY (ops := ops) (h.1 ht) (by
            have : yieldF ops (lk l) j = some (some t) := hy
            simp [wantedF, hg, this, ht])
          exact ⟨r, u, h1, by rw [fput_lk]; exact ih _ _ _ h2⟩
        · obtain ⟨h1, h2⟩ := h.2 ht
          have : yieldF ops (lk l) j = some (some t) := hy
          exact ⟨.v undef, none, ⟨h1, .inr ⟨by simp [wantedF, hg, this, ht], rfl, rfl⟩⟩, by rw [fput_lk]; exact ih _ _ _ h2⟩
      · rename_i hy
        obtain ⟨h1, h2⟩ := h
        have : yieldF ops (lk l) j = some none := hy
        exact ⟨.v undef, none, ⟨h1, .inr ⟨by simp [wantedF, hg, this], rfl, rfl⟩⟩, by rw [fput_lk]; exact ih _ _ _ h2⟩
      · exact h.elim

theorem AWP.drawH {Q : AExit → ASt → Prop} {id : Nat} {os : List Oper} {l : List (Nat × AV)} {N : List Box} (m : Nat) (sp : List Sp) (hm : P.follows .mixedOrders = true) (hB : holeB .any os.toArray sp = true)
    (h : hops P E os.toArray H0 N.length (fun l N => Q .normal ⟨l, H0 ++ N⟩) os sp (N ++ List.replicate m hole) l) :
    AWP P E (.region id os.toArray true) Q ⟨l, H0 ++ N⟩ := fun a w ⟨β, hs⟩ => by
  obtain ⟨i1, i2⟩ := still (w' := { w with drawn := w.drawn + 1 }) hs.inv (Wor.drawn w _) (fun _ _ _ => rfl)
  have hsf : SimF E (lk l) (H0 ++ N) β a { w with drawn := w.drawn + 1 } := ⟨hs.defers, hs.size, i1, hs.stp.trans i2, fun k => (hs.tmps k).stp i2⟩
  obtain ⟨β', hs', hh⟩ := holes hsf m
  rw [List.append_assoc] at hs'
  have inv0 : HeadInv .any os.toArray os.toArray.size (Array.replicate os.toArray.size false) :=
    ⟨by simp, fun j oj _ hl => (by rw [getD_replicate_false] at hl; cases hl), fun t h1 h2 => by omega⟩
  have hol : Hol H0 N.length (N ++ List.replicate m hole) β' := fun p bx hp hb _ => by
    have hlt := (List.getElem?_eq_some_iff.1 hb).1
    simp only [List.length_append, List.length_replicate] at hlt
    have := hh (p - N.length) (by omega)
    rw [List.length_append, show H0.length + N.length + (p - N.length) = H0.length + p by omega] at this
    exact this
  refine wp_region_any hm (wpAny_of_H (H0 := H0) (n := N.length) (sp := sp) (E := E) (Q := fun T N => ∃ l', T = lk l' ∧ Q .normal ⟨l', H0 ++ N⟩) (fun T N a w β hs h => ?_) _ _ _ _ β' _ _ hs' hol ?_)
  · obtain ⟨l', rfl, hq⟩ := h
    exact ⟨⟨l', H0 ++ N⟩, hq, β, ⟨hs.defers, hs.size, hs.inv, hs.stp, hs.tmps⟩⟩
  · have := wpAnyH_lex (P := P) (E := E) (H0 := H0) (n := N.length) (md := .any) (sp := sp) (Q := fun T N => ∃ l', T = lk l' ∧ Q .normal ⟨l', H0 ++ N⟩) os 0 (Array.replicate os.toArray.size false) (lk l) (N ++ List.replicate m hole) (by simp) inv0 (fun j _ => Nat.zero_le _) (by simpa [holeB] using hB) (wpHQ_of_hops (fun l N hq => ⟨l, rfl, hq⟩) _ _ _ _ h)
    simpa using this
theorem AWP.drawH_k {Q : AExit → ASt → Prop} {id : Nat} {os : List Oper} {l : List (Nat × AV)} {N : List Box} (m : Nat) (sp : List Sp) (hm : P.follows .mixedOrders = true) (hB : holeB .any os.toArray sp = true)
    (h : ∀ K : List (Nat × AV) → List Box → Prop, (∀ l N, Q .normal ⟨l, H0 ++ N⟩ → K l N) → hops P E os.toArray H0 N.length K os sp (N ++ List.replicate m hole) l) :
    AWP P E (.region id os.toArray true) Q ⟨l, H0 ++ N⟩ := AWP.drawH m sp hm hB (h _ fun _ _ h => h)
/-- The same where no box stands behind the caller's. -/
theorem AWP.drawH0_k {Q : AExit → ASt → Prop} {id : Nat} {os : List Oper} {l : List (Nat × AV)} (m : Nat) (sp : List Sp) (hm : P.follows .mixedOrders = true) (hB : holeB .any os.toArray sp = true)
    (h : ∀ K : List (Nat × AV) → List Box → Prop, (∀ l N, Q .normal ⟨l, H0 ++ N⟩ → K l N) → hops P E os.toArray H0 0 K os sp (List.replicate m hole) l) :
    AWP P E (.region id os.toArray true) Q ⟨l, H0⟩ := by
  have := AWP.drawH (H0 := H0) (N := []) (P := P) (E := E) (Q := Q) (id := id) (l := l) m sp hm hB (h _ fun _ _ h => h)
  rwa [List.append_nil] at this
theorem hops.step {K : List (Nat × AV) → List Box → Prop} {o : Oper} {rest : List Oper} {ss : List Sp} {N : List Box} {l : List (Nat × AV)}
    (h : ∀ T : List (Nat × AV) → List Box → Prop, (∀ l N, hops P E ops H0 n K rest ss.tail N l → T l N) → match o.guard with
      | none => hone P E H0 n (ss.headD (.same, [])) o T N l
      | some (j, want) => match ayield ops l j with
        | some (some t) => Branch t want l (hone P E H0 n (ss.headD (.same, [])) o T N) (hskip E o T N)
        | some none => hskip E o T N l
        | none => False) : hops P E ops H0 n K (o :: rest) ss N l := by
  simp only [hops]
  exact h _ fun _ _ h => h
theorem hops.nil {K : List (Nat × AV) → List Box → Prop} {ss : List Sp} {N : List Box} {l : List (Nat × AV)} (h : K l N) : hops P E ops H0 n K [] ss N l := h
end
end Go.Proofs.YtnlmdeeadldgmaaGreatDoor.VL

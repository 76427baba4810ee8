/- The value logic, part 10b: regions that draw their order, but for their last operations, which wait for all others: these may change boxes. -/
import Derived.Test.YtnlmdeeadldgmaaGreatDoorZVLDraw
import Derived.StillTail
set_option linter.unusedVariables false
set_option linter.unusedSimpArgs false
namespace Go.Proofs.YtnlmdeeadldgmaaGreatDoor.VL
open Go Go.RowKit Go.Lib

section
variable {P : Program} {E : Ent} {ops : Array Oper} {md : Region.Mode} {H : List Box}

def wpAnyLF (P : Program) (E : Ent) (md : Region.Mode) (ops : Array Oper) (H : List Box) (n : Nat) (L : Array Bool → Tmps → Prop) : Nat → Array Bool → Tmps → Prop
  | 0, listed, T => L listed T
  | f + 1, listed, T =>
    Region.ready md ops listed ≠ [] ∧ ∀ i ∈ Region.ready md ops listed, i < n ∧ qOpF P E ops H i (wpAnyLF P E md ops H n L f (listed.setIfInBounds i true)) T

theorem wpAny_of_headF {n g : Nat} {L : Array Bool → Tmps → Prop} {Q' : Exit → Act → World → Prop} (hL : ∀ listed T a w β, SimF E T H β a w → L listed T → wpAny P md ops Q' g listed a w) :
    ∀ (f : Nat) (listed : Array Bool) (T : Tmps) (β : Pl) (a : Act) (w : World), SimF E T H β a w → wpAnyLF P E md ops H n L f listed T → wpAny P md ops Q' (f + g) listed a w
  | 0, listed, T, β, a, w, hs, h => by rw [Nat.zero_add]; exact hL _ _ _ _ _ hs h
  | f + 1, listed, T, β, a, w, hs, h => by
    rw [show f + 1 + g = (f + g) + 1 by omega]
    exact ⟨fun h0 => absurd h0 h.1, fun i hi => wpOp_of_F hs (fun T a w β hs' hk => wpAny_of_headF hL f _ T β a w hs' hk) (h.2 i hi).2⟩

theorem wpAnyLF_first {n i : Nat} {oi : Oper} {v : AV} {L : Array Bool → Tmps → Prop} (hi : ops[i]? = some oi)
    (hs : Region.sinkB md ops n = true) (hc : Region.chainB md ops n = true) (hn : n < ops.size) (hin : i < n)
    (hdone : ∀ listed T, L listed T → ∀ j ∈ Region.ready md ops listed, n ≤ j) :
    ∀ (f : Nat) (listed : Array Bool) (T : Tmps), HeadInv md ops n listed →
      (∀ j oj, ops[j]? = some oj → j ≠ i → listed.getD j true = false → (∀ e ∈ oj.after, Region.binds md e = true → e.on ≠ i) → oi.apart ops oj = true) →
      i ∈ Region.ready md ops listed → QY P E ops H oi v T →
      wpAnyLF P E md ops H n L f (listed.setIfInBounds i true) (fput T oi.dst v) → wpAnyLF P E md ops H n L (f + 1) listed T := by
  intro f
  induction f with
  | zero =>
    intro listed T inv _ hr hy HH
    have hun := (mem_ready.1 hr).1
    refine ⟨fun h => (by rw [h] at hr; cases hr), fun j hj => ?_⟩
    have hjn : j < n := by
      rcases Nat.lt_or_ge j n with h | h
      · exact h
      · exact absurd hj (tail_waits hs hc hn inv _ i rfl hin hun j h)
    refine ⟨hjn, ?_⟩
    by_cases hji : j = i
    · subst hji; exact hy.qOp hi HH
    · have := hdone _ _ HH j (ready_mono hj hji)
      omega
  | succ f ih =>
    intro listed T inv hfree hr hy HH
    have hun := (mem_ready.1 hr).1
    refine ⟨fun h => (by rw [h] at hr; cases hr), fun j hj => ?_⟩
    have hjn : j < n := by
      rcases Nat.lt_or_ge j n with h | h
      · exact h
      · exact absurd hj (tail_waits hs hc hn inv _ i rfl hin hun j h)
    refine ⟨hjn, ?_⟩
    by_cases hji : j = i
    · subst hji; exact hy.qOp hi HH
    · have h1 := (HH.2 j (ready_mono hj hji)).2
      obtain ⟨hjun, oj, hoj, hall⟩ := mem_ready.1 hj
      have hnot : ∀ e ∈ oj.after, Region.binds md e = true → e.on ≠ i := fun e he hb heq => by
        have h1 := hall e he hb
        rw [heq, getD_both hun] at h1
        cases h1
      have h2 := qOpF_put hoj (hfree j oj hoj hji hjun hnot) hy h1
      have hfree' : ∀ k ok, ops[k]? = some ok → k ≠ i → (listed.setIfInBounds j true).getD k true = false →
          (∀ e ∈ ok.after, Region.binds md e = true → e.on ≠ i) → oi.apart ops ok = true := fun k ok hk hki hun hno => by
        refine hfree k ok hk hki ?_ hno
        by_cases hjk : j = k
        · subst hjk; exact hjun
        · rw [getD_set_ne true hjk] at hun; exact hun
      refine qOpF_mono (fun a' h3 => ih (listed.setIfInBounds j true) a' (inv.set hj hjn) hfree' (ready_mono hr (Ne.symm hji)) h3.1 ?_) h2
      rw [Array.setIfInBounds_comm _ _ hji]
      exact h3.2

theorem wpAnyLF_lex {n g : Nat} {Lq : Tmps → Prop} (hs : Region.sinkB md ops n = true) (hc : Region.chainB md ops n = true) (hn : n < ops.size) :
    ∀ (l : List Oper) (k : Nat) (listed : Array Bool) (T : Tmps), (∀ j, j < l.length → l[j]? = ops[k + j]?) → k + l.length = n → HeadInv md ops n listed →
    Region.lexHead md ops g l.length k listed = true → wpQ P E ops H Lq l T →
    wpAnyLF P E md ops H n (fun listed' T' => Region.seqB md ops g n listed' = true ∧ Lq T') l.length listed T
  | [], k, listed, T, _, hk, _, hB, h => by
    have : k = n := by simpa using hk
    subst this
    exact ⟨by simpa [Region.lexHead] using hB, h⟩
  | o :: l, k, listed, T, hl, hk, inv, hB, h => by
    have h0 : ops[k]? = some o := by simpa using (hl 0 (by simp)).symm
    simp only [List.length_cons, Region.lexHead, Bool.and_eq_true] at hB
    obtain ⟨⟨hr, hf⟩, hB'⟩ := hB
    have hkn : k < n := by simp only [List.length_cons] at hk; omega
    have hr' : k ∈ Region.ready md ops listed := by simpa using hr
    obtain ⟨v, hy, hK⟩ := h
    exact wpAnyLF_first h0 hs hc hn hkn (fun listed' a' hL => seqB_ready hL.1) l.length listed T inv (Region.free_spec h0 hf) hr' hy
      (wpAnyLF_lex hs hc hn l (k + 1) _ _ (fun j hj => by have := hl (j + 1) (by simp; omega); simpa [Nat.add_assoc, Nat.add_comm 1 j] using this) (by simp only [List.length_cons] at hk; omega) (inv.set hr' hkn) hB' hK)

theorem AWP.drawT {Q : AExit → ASt → Prop} {id : Nat} {os : List Oper} {l : List (Nat × AV)} (n : Nat) (hm : P.follows .mixedOrders = true) (hB : Region.lexTailB .any os.toArray n = true)
    (h : qops P E os.toArray H (fun l => aops P E os.toArray Q (os.drop n) ⟨l, H⟩) (os.take n) l) : AWP P E (.region id os.toArray true) Q ⟨l, H⟩ := fun a w ⟨β, hs⟩ => by
  simp only [Region.lexTailB, Bool.and_eq_true, decide_eq_true_eq] at hB
  obtain ⟨⟨⟨⟨hsel, hn⟩, hsi⟩, hc⟩, hlex⟩ := hB
  have hn' : n < os.length := by simpa using hn
  have htl : (os.take n).length = n := by simp; omega
  have hdl : (os.drop n).length = os.toArray.size - n := by simp
  obtain ⟨i1, i2⟩ := still (w' := { w with drawn := w.drawn + 1 }) hs.inv (Wor.drawn w _) (fun _ _ _ => rfl)
  have hsf : SimF E (lk l) H β a { w with drawn := w.drawn + 1 } := ⟨hs.defers, hs.size, i1, hs.stp.trans i2, fun k => (hs.tmps k).stp i2⟩
  have inv0 : HeadInv .any os.toArray n (Array.replicate os.toArray.size false) :=
    ⟨by simp, fun j oj _ hl => (by rw [getD_replicate_false] at hl; cases hl), fun t _ ht => getD_in (by simpa using ht) (getD_replicate_false _ _)⟩
  have HH := wpAnyLF_lex (P := P) (E := E) (H := H) (md := .any) (g := os.toArray.size - n) (Lq := fun T => ∃ l', T = lk l' ∧ aops P E os.toArray Q (os.drop n) ⟨l', H⟩) hsi hc hn (os.take n) 0 _ (lk l) (fun j hj => by
    have hj' : j < n := by rw [htl] at hj; exact hj
    simp [hj']) (by simpa using htl) inv0 (by rw [htl]; exact hlex) (wpQ_of_qops (fun l hq => ⟨l, rfl, hq⟩) _ _ h)
  refine wp_region_any hm ?_
  have := wpAny_of_headF (P := P) (E := E) (H := H) (md := .any) (Q' := lift E Q) (g := os.toArray.size - n) (fun listed T a' w' β' hs' hL => by
    obtain ⟨hq, l', rfl, ha⟩ := hL
    have hsim : Sim E ⟨l', H⟩ a' w' := ⟨β', ⟨hs'.defers, hs'.size, hs'.inv, hs'.stp, hs'.tmps⟩⟩
    have := wpAny_of_seq (md := .any) (Q' := lift E Q) (os.drop n) n listed a' w' (fun j => by simp [List.getElem?_drop]) (by rw [hdl]; exact hq) (aops_sound _ _ ha a' w' hsim)
    rwa [hdl] at this) _ _ _ _ _ _ hsf HH
  rw [htl, show n + (os.toArray.size - n) = os.toArray.size by omega] at this
  exact this
theorem AWP.drawT_k {Q : AExit → ASt → Prop} {id : Nat} {os : List Oper} {l : List (Nat × AV)} (hm : P.follows .mixedOrders = true) (hB : Region.lexTailB .any os.toArray (os.length - 1) = true)
    (h : ∀ Q' : AExit → ASt → Prop, (∀ e σ, Q e σ → Q' e σ) → qops P E os.toArray H (fun l => aops P E os.toArray Q' (os.drop (os.length - 1)) ⟨l, H⟩) (os.take (os.length - 1)) l) :
    AWP P E (.region id os.toArray true) Q ⟨l, H⟩ := AWP.drawT _ hm hB (h Q fun _ _ h => h)
end
end Go.Proofs.YtnlmdeeadldgmaaGreatDoor.VL

/- The value logic, part 10c: regions that draw their order: a head whose order doesn't matter, a gate, and a tail of which each order is walked. -/
set_option linter.unusedVariables false
set_option linter.unusedSimpArgs false
namespace Go.Proofs.YtnlmdeeadldgmaaGreatDoor.VL
open Go Go.RowKit Go.Lib

/-- One operation with its guard. -/
def astep (P : Program) (E : Ent) (ops : Array Oper) (Q : AExit → ASt → Prop) (o : Oper) (K : ASt → Prop) (σ : ASt) : Prop :=
  match o.guard with
  | none => aone P E Q o K σ
  | some (j, want) => match ayield ops σ.tmps j with
    | some (some t) => Branch t want σ (aone P E Q o K) (askip E o K)
    | some none => askip E o K σ
    | none => False
theorem aops_cons {P : Program} {E : Ent} {ops : Array Oper} {Q : AExit → ASt → Prop} {o : Oper} {rest : List Oper} {σ : ASt} : aops P E ops Q (o :: rest) σ = astep P E ops Q o (aops P E ops Q rest) σ := rfl

def plainOp (o : Oper) : Bool := match o.op with | .call { callee := .value _, .. } => false | _ => true
theorem aone_conj {P : Program} {E : Ent} {Q : AExit → ASt → Prop} {o : Oper} {σ : ASt} {ι : Type} {S : ι → Prop} {K : ι → ASt → Prop} (hp : plainOp o = true) (hne : ∃ e, S e) (h : ∀ e, S e → aone P E Q o (K e) σ) : aone P E Q o (fun σ => ∀ e, S e → K e σ) σ := by
  obtain ⟨e0, h0⟩ := hne
  unfold plainOp at hp
  unfold aone at h ⊢
  refine ⟨(h e0 h0).1, ?_⟩
  split
  · rename_i f args ts ho
    rw [ho] at hp
    cases hp
  · rename_i t x yt ho
    have h1 := (h e0 h0).2
    rw [ho] at h1
    refine ⟨h1.1, ?_⟩
    split
    · rename_i C hC
      intro b hb e he
      have h2 := (h e he).2
      rw [ho] at h2
      have h3 := h2.2
      rw [hC] at h3
      exact h3 b hb
    · rename_i hC
      have h3 := h1.2
      rw [hC] at h3
      exact h3
  · rename_i x ho
    have h1 := (h e0 h0).2
    rw [ho] at h1
    exact h1
  · rename_i h1 h2 h4
    have key : ∀ e, S e → match aop P o.type E.base (aeval σ.tmps) σ.H o.op with
        | some (r, H') => K e ⟨put σ.tmps o.dst r, H'⟩
        | none => False := fun e he => by
      have h3 := (h e he).2
      split at h3
      · rename_i f args ts ho; exact absurd ho (h1 f args ts)
      · rename_i t x yt ho; exact absurd ho (h2 t x yt)
      · rename_i x ho; exact absurd ho (h4 x)
      · exact h3
    split
    · rename_i r H' hop
      intro e he
      have := key e he
      rw [hop] at this
      exact this
    · rename_i hop
      have := key e0 h0
      rw [hop] at this
      exact this
theorem astep_conj {P : Program} {E : Ent} {ops : Array Oper} {Q : AExit → ASt → Prop} {o : Oper} {σ : ASt} {ι : Type} {S : ι → Prop} {K : ι → ASt → Prop} (hp : plainOp o = true) (hne : ∃ e, S e) (h : ∀ e, S e → astep P E ops Q o (K e) σ) : astep P E ops Q o (fun σ => ∀ e, S e → K e σ) σ := by
  unfold astep at h ⊢
  split
  · rename_i hg
    simp only [hg] at h
    exact aone_conj hp hne h
  · rename_i j want hg
    simp only [hg] at h
    split
    · rename_i t hy
      simp only [hy] at h
      refine ⟨fun ht => aone_conj hp hne fun e he => (h e he).1 ht, fun ht => ?_⟩
      obtain ⟨e0, h0⟩ := hne
      exact ⟨((h e0 h0).2 ht).1, fun e he => ((h e he).2 ht).2⟩
    · rename_i hy
      simp only [hy] at h
      obtain ⟨e0, h0⟩ := hne
      exact ⟨(h e0 h0).1, fun e he => (h e he).2⟩
    · rename_i hy
      simp only [hy] at h
      obtain ⟨e0, h0⟩ := hne
      exact h e0 h0

/-- What behind i comes of orders. -/
def tailsOf (i : Nat) (es : List (List Nat)) : List (List Nat) := es.filterMap fun e => match e with
  | [] => none
  | j :: r => if j = i then some r else none
theorem mem_tailsOf {i : Nat} {es : List (List Nat)} {r : List Nat} (h : r ∈ tailsOf i es) : i :: r ∈ es := by
  simp only [tailsOf, List.mem_filterMap] at h
  obtain ⟨e, he, h⟩ := h
  split at h
  · cases h
  · rename_i j r'
    split at h
    · rename_i hj
      injection h with h
      rw [← h, ← hj]
      exact he
    · cases h
def coverB (md : Region.Mode) (ops : Array Oper) : Nat → Array Bool → List (List Nat) → Bool
  | 0, listed, es => (Region.ready md ops listed).isEmpty && es.contains []
  | f + 1, listed, es => if (Region.ready md ops listed).isEmpty then es.contains [] else
      (Region.ready md ops listed).all fun i => (match ops[i]? with | some o => plainOp o | none => false) && (!(tailsOf i es).isEmpty && coverB md ops f (listed.setIfInBounds i true) (tailsOf i es))
def pickO (ops : List Oper) (e : List Nat) : List Oper := e.filterMap fun i => ops[i]?

theorem astep_sound {P : Program} {E : Ent} {ops : Array Oper} {Q : AExit → ASt → Prop} {i : Nat} {o : Oper} {K : ASt → Prop} {σ : ASt} {a : Act} {w : World} {K' : Act → World → Prop} (hi : ops[i]? = some o) (h : astep P E ops Q o K σ) (hs : Sim E σ a w)
    (hK : ∀ σ' a' w', K σ' → Sim E σ' a' w' → K' a' w') : wpOp P ops (lift E Q) i K' a w := by
  obtain ⟨β, hs⟩ := hs
  unfold wpOp
  simp only [hi]
  unfold astep at h
  split at h
  · rename_i hg
    rw [if_pos (by simp [Region.wanted, hg])]
    exact .inl (aone_sound h hs hK)
  · rename_i j want hg
    split at h
    · rename_i t hy
      have hyy := yield_sim hs hy
      by_cases ht : t = want
      · rw [if_pos (by simp [Region.wanted, hg, hyy, ht])]
        exact .inl (aone_sound (h.1 ht) hs hK)
      · rw [if_neg (by simp [Region.wanted, hg, hyy, ht])]
        obtain ⟨h1, h2⟩ := h.2 ht
        exact hK _ _ _ h2 ⟨β, hs.put o.dst h1 hs.inv (Stp.refl _ _ _) (.v _)⟩
    · rename_i hy
      have hyy := yield_sim hs hy
      rw [if_neg (by simp [Region.wanted, hg, hyy])]
      obtain ⟨h1, h2⟩ := h
      exact hK _ _ _ h2 ⟨β, hs.put o.dst h1 hs.inv (Stp.refl _ _ _) (.v _)⟩
    · exact h.elim

theorem wpAny_of_cover {P : Program} {E : Ent} {os : List Oper} {Q : AExit → ASt → Prop} {md : Region.Mode} : ∀ (f : Nat) (listed : Array Bool) (es : List (List Nat)) (σ : ASt) (a : Act) (w : World), coverB md os.toArray f listed es = true →
    (∀ e, e ∈ es → aops P E os.toArray Q (pickO os e) σ) → Sim E σ a w → wpAny P md os.toArray (lift E Q) f listed a w
  | 0, listed, es, σ, a, w, hc, h, hs => by
    simp only [coverB, Bool.and_eq_true, List.isEmpty_iff, List.contains_iff_mem] at hc
    exact ⟨hc.1, σ, h [] hc.2, hs⟩
  | f + 1, listed, es, σ, a, w, hc, h, hs => by
    simp only [coverB] at hc
    split at hc
    · rename_i he
      simp only [List.isEmpty_iff] at he
      simp only [List.contains_iff_mem] at hc
      exact ⟨fun _ => ⟨σ, h [] hc, hs⟩, fun i hi => by rw [he] at hi; cases hi⟩
    · rename_i he
      refine ⟨fun h0 => absurd (by rw [h0]; rfl) he, fun i hi => ?_⟩
      have hc := List.all_eq_true.1 hc i hi
      simp only [Bool.and_eq_true, Bool.not_eq_true'] at hc
      obtain ⟨hp, hne, hcov⟩ := hc
      cases hio : os.toArray[i]? with
      | none => rw [hio] at hp; cases hp
      | some o =>
        rw [hio] at hp
        have hoi : os[i]? = some o := by simpa using hio
        obtain ⟨r0, hr0⟩ : ∃ r0, r0 ∈ tailsOf i es := by
          cases ht : tailsOf i es with
          | nil => rw [ht] at hne; cases hne
          | cons r l => exact ⟨r, by simp⟩
        have hst : astep P E os.toArray Q o (fun σ => ∀ r, r ∈ tailsOf i es → aops P E os.toArray Q (pickO os r) σ) σ :=
          astep_conj (S := fun r => r ∈ tailsOf i es) hp ⟨r0, hr0⟩ fun r hr => by
            have := h _ (mem_tailsOf hr)
            simp only [pickO, List.filterMap_cons, hoi] at this
            exact this
        exact astep_sound hio hst hs fun σ' a' w' hk hs' => wpAny_of_cover f _ _ σ' a' w' hcov hk hs'

/-- No operation of the tail is ready before the gate's. -/
def gateB (md : Region.Mode) (ops : Array Oper) (n : Nat) : Bool :=
  n == 0 || (Region.sinkB md ops (n - 1) && (List.range ops.size).all fun t => decide (t < n) || (List.range t).any fun u => decide (n - 1 ≤ u) && Region.waitsFor md ops t u)
theorem gate_all {md : Region.Mode} {ops : Array Oper} {n : Nat} {listed : Array Bool} (hn : n < ops.size) (hs : Region.sinkB md ops n = true) (inv : HeadInv md ops (n + 1) listed) (hl : listed.getD n false = true) :
    ∀ (d i : Nat), n - i = d → i ≤ n → listed.getD i false = true := by
  intro d
  induction d using Nat.strongRecOn with
  | _ d ih =>
    intro i hd hi
    by_cases hin : i = n
    · subst hin; exact hl
    · have h1 := List.all_eq_true.1 hs i (List.mem_range.2 (by omega))
      obtain ⟨j, hj, hj2⟩ := List.any_eq_true.1 h1
      simp only [Bool.and_eq_true, decide_eq_true_eq] at hj2
      obtain ⟨oj, hoj, e, he, hb, hon⟩ := Region.waitsFor_spec hj2.2
      have hjle : j ≤ n := by have := List.mem_range.1 hj; omega
      have hlj := ih (n - j) (by omega) j rfl hjle
      have := inv.closed j oj hoj hlj e he hb
      rw [hon] at this
      exact this
theorem tail_waits2 {md : Region.Mode} {ops : Array Oper} {n : Nat} {listed : Array Bool} (hg : gateB md ops n = true) (hn : n ≤ ops.size) (inv : HeadInv md ops n listed) {i : Nat} (hi : i < n) (hun : listed.getD i true = false) :
    ∀ (t : Nat), n ≤ t → t ∉ Region.ready md ops listed := by
  intro t ht hr
  obtain ⟨hutt, ot, hot, hall⟩ := mem_ready.1 hr
  have htlt : t < ops.size := (Array.getElem?_eq_some_iff.1 hot).1
  unfold gateB at hg
  simp only [Bool.or_eq_true, beq_iff_eq, Bool.and_eq_true] at hg
  rcases hg with h0 | ⟨hs, hw⟩
  · omega
  · have h1 := List.all_eq_true.1 hw t (List.mem_range.2 htlt)
    simp only [Bool.or_eq_true, decide_eq_true_eq] at h1
    rcases h1 with h1 | h1
    · omega
    · obtain ⟨u, hu, hu2⟩ := List.any_eq_true.1 h1
      simp only [Bool.and_eq_true, decide_eq_true_eq] at hu2
      obtain ⟨o', ho', e, he, hb, hon⟩ := Region.waitsFor_spec hu2.2
      have : o' = ot := Option.some.inj (ho'.symm.trans hot)
      subst this
      have h2 := hall e he hb
      rw [hon] at h2
      by_cases hun1 : u = n - 1
      · subst hun1
        obtain ⟨n', rfl⟩ : ∃ n', n = n' + 1 := ⟨n - 1, by omega⟩
        rw [Nat.add_sub_cancel] at h2 hs
        have := gate_all (by omega) hs inv h2 _ i rfl (by omega)
        rw [getD_both hun] at this
        cases this
      · have := inv.tail u (by omega) (by have := List.mem_range.1 hu; omega)
        rw [getD_both this] at h2
        cases h2

section
variable {P : Program} {E : Ent} {ops : Array Oper} {md : Region.Mode} {H : List Box}
theorem wpAnyLF_first2 {n i : Nat} {oi : Oper} {v : AV} {L : Array Bool → Tmps → Prop} (hi : ops[i]? = some oi)
    (hg : gateB md ops n = true) (hn : n ≤ ops.size) (hin : i < n)
    (hdone : ∀ listed T, L listed T → ∀ j ∈ Region.ready md ops listed, n ≤ j) :
    ∀ (f : Nat) (listed : Array Bool) (T : Tmps), HeadInv md ops n listed →
      (∀ j oj, ops[j]? = some oj → j ≠ i → listed.getD j true = false → (∀ e ∈ oj.after, Region.binds md e = true → e.on ≠ i) → oi.apart ops oj = true) →
      i ∈ Region.ready md ops listed → QY P E ops H oi v T →
      wpAnyLF P E md ops H n L f (listed.setIfInBounds i true) (fput T oi.dst v) → wpAnyLF P E md ops H n L (f + 1) listed T := by
  intro f
  induction f with
  | zero =>
    intro listed T inv _ hr hy HH
    have hun := (mem_ready.1 hr).1
    refine ⟨fun h => (by rw [h] at hr; cases hr), fun j hj => ?_⟩
    have hjn : j < n := by
      rcases Nat.lt_or_ge j n with h | h
      · exact h
      · exact absurd hj (tail_waits2 hg hn inv hin hun j h)
    refine ⟨hjn, ?_⟩
    by_cases hji : j = i
    · subst hji; exact hy.qOp hi HH
    · have := hdone _ _ HH j (ready_mono hj hji)
      omega
  | succ f ih =>
    intro listed T inv hfree hr hy HH
    have hun := (mem_ready.1 hr).1
    refine ⟨fun h => (by rw [h] at hr; cases hr), fun j hj => ?_⟩
    have hjn : j < n := by
      rcases Nat.lt_or_ge j n with h | h
      · exact h
      · exact absurd hj (tail_waits2 hg hn inv hin hun j h)
    refine ⟨hjn, ?_⟩
    by_cases hji : j = i
    · subst hji; exact hy.qOp hi HH
    · have h1 := (HH.2 j (ready_mono hj hji)).2
      obtain ⟨hjun, oj, hoj, hall⟩ := mem_ready.1 hj
      have hnot : ∀ e ∈ oj.after, Region.binds md e = true → e.on ≠ i := fun e he hb heq => by
        have h1 := hall e he hb
        rw [heq, getD_both hun] at h1
        cases h1
      have h2 := qOpF_put hoj (hfree j oj hoj hji hjun hnot) hy h1
      have hfree' : ∀ k ok, ops[k]? = some ok → k ≠ i → (listed.setIfInBounds j true).getD k true = false →
          (∀ e ∈ ok.after, Region.binds md e = true → e.on ≠ i) → oi.apart ops ok = true := fun k ok hk hki hun hno => by
        refine hfree k ok hk hki ?_ hno
        by_cases hjk : j = k
        · subst hjk; exact hjun
        · rw [getD_set_ne true hjk] at hun; exact hun
      refine qOpF_mono (fun a' h3 => ih (listed.setIfInBounds j true) a' (inv.set hj hjn) hfree' (ready_mono hr (Ne.symm hji)) h3.1 ?_) h2
      rw [Array.setIfInBounds_comm _ _ hji]
      exact h3.2

/-- Are i of the head free of those that may come later; is the tail covered? -/
def freeTo (md : Region.Mode) (ops : Array Oper) (n : Nat) (g : Nat) (es : List (List Nat)) : Nat → Nat → Array Bool → Bool
  | 0, k, listed => (Region.ready md ops listed).all (fun j => decide (n ≤ j)) && coverB md ops g listed es
  | f + 1, k, listed => (Region.ready md ops listed).contains k && (Region.free md ops listed k && freeTo md ops n g es f (k + 1) (listed.setIfInBounds k true))
def ordB (md : Region.Mode) (ops : Array Oper) (n : Nat) (es : List (List Nat)) : Bool :=
  decide (n ≤ ops.size) && (gateB md ops n && freeTo md ops n (ops.size - n) es n 0 (Array.replicate ops.size false))

theorem wpAnyLF_lex2 {n g : Nat} {es : List (List Nat)} {Lq : Tmps → Prop} (hg : gateB md ops n = true) (hn : n ≤ ops.size) :
    ∀ (l : List Oper) (k : Nat) (listed : Array Bool) (T : Tmps), (∀ j, j < l.length → l[j]? = ops[k + j]?) → k + l.length = n → HeadInv md ops n listed →
    freeTo md ops n g es l.length k listed = true → wpQ P E ops H Lq l T →
    wpAnyLF P E md ops H n (fun listed' T' => ((Region.ready md ops listed').all (fun j => decide (n ≤ j)) = true ∧ coverB md ops g listed' es = true) ∧ Lq T') l.length listed T
  | [], k, listed, T, _, hk, _, hB, h => ⟨by simpa [freeTo] using hB, h⟩
  | o :: l, k, listed, T, hl, hk, inv, hB, h => by
    have h0 : ops[k]? = some o := by simpa using (hl 0 (by simp)).symm
    simp only [List.length_cons, freeTo, Bool.and_eq_true] at hB
    obtain ⟨hr, hf, hB'⟩ := hB
    have hkn : k < n := by simp only [List.length_cons] at hk; omega
    have hr' : k ∈ Region.ready md ops listed := by simpa using hr
    obtain ⟨v, hy, hK⟩ := h
    exact wpAnyLF_first2 h0 hg hn hkn (fun listed' a' hL j hj => by simpa using List.all_eq_true.1 hL.1.1 j hj) l.length listed T inv (Region.free_spec h0 hf) hr' hy
      (wpAnyLF_lex2 hg hn l (k + 1) _ _ (fun j hj => by have := hl (j + 1) (by simp; omega); simpa [Nat.add_assoc, Nat.add_comm 1 j] using this) (by simp only [List.length_cons] at hk; omega) (inv.set hr' hkn) hB' hK)

theorem AWP.drawO {Q : AExit → ASt → Prop} {id : Nat} {os : List Oper} {l : List (Nat × AV)} (n : Nat) (es : List (List Nat)) (hm : P.follows .mixedOrders = true) (hB : ordB .any os.toArray n es = true)
    (h : qops P E os.toArray H (fun l => ∀ e, e ∈ es → aops P E os.toArray Q (pickO os e) ⟨l, H⟩) (os.take n) l) : AWP P E (.region id os.toArray true) Q ⟨l, H⟩ := fun a w ⟨β, hs⟩ => by
  simp only [ordB, Bool.and_eq_true, decide_eq_true_eq] at hB
  obtain ⟨hn, hg, hfr⟩ := hB
  have hn' : n ≤ os.length := by simpa using hn
  have htl : (os.take n).length = n := by simp; omega
  obtain ⟨i1, i2⟩ := still (w' := { w with drawn := w.drawn + 1 }) hs.inv (Wor.drawn w _) (fun _ _ _ => rfl)
  have hsf : SimF E (lk l) H β a { w with drawn := w.drawn + 1 } := ⟨hs.defers, hs.size, i1, hs.stp.trans i2, fun k => (hs.tmps k).stp i2⟩
  have inv0 : HeadInv .any os.toArray n (Array.replicate os.toArray.size false) :=
    ⟨by simp, fun j oj _ hl => (by rw [getD_replicate_false] at hl; cases hl), fun t _ ht => getD_in (by simpa using ht) (getD_replicate_false _ _)⟩
  have HH := wpAnyLF_lex2 (P := P) (E := E) (H := H) (md := .any) (g := os.toArray.size - n) (es := es) (Lq := fun T => ∃ l', T = lk l' ∧ ∀ e, e ∈ es → aops P E os.toArray Q (pickO os e) ⟨l', H⟩) hg hn (os.take n) 0 _ (lk l) (fun j hj => by
    have hj' : j < n := by rw [htl] at hj; exact hj
    simp [hj']) (by simpa using htl) inv0 (by rw [htl]; exact hfr) (wpQ_of_qops (fun l hq => ⟨l, rfl, hq⟩) _ _ h)
  refine wp_region_any hm ?_
  have := wpAny_of_headF (P := P) (E := E) (H := H) (md := .any) (Q' := lift E Q) (g := os.toArray.size - n) (fun listed T a' w' β' hs' hL => by
    obtain ⟨⟨_, hcov⟩, l', rfl, ha⟩ := hL
    exact wpAny_of_cover _ listed es ⟨l', H⟩ a' w' hcov ha ⟨β', ⟨hs'.defers, hs'.size, hs'.inv, hs'.stp, hs'.tmps⟩⟩) _ _ _ _ _ _ hsf HH
  rw [htl, show n + (os.toArray.size - n) = os.toArray.size by omega] at this
  exact this
theorem AWP.drawO_k {Q : AExit → ASt → Prop} {id : Nat} {os : List Oper} {l : List (Nat × AV)} (n : Nat) (es : List (List Nat)) (hm : P.follows .mixedOrders = true) (hB : ordB .any os.toArray n es = true)
    (h : ∀ Q' : AExit → ASt → Prop, (∀ e σ, Q e σ → Q' e σ) → qops P E os.toArray H (fun l => ∀ e, e ∈ es → aops P E os.toArray Q' (pickO os e) ⟨l, H⟩) (os.take n) l) :
    AWP P E (.region id os.toArray true) Q ⟨l, H⟩ := AWP.drawO n es hm hB (h Q fun _ _ h => h)
theorem ord_cons {α : Type} {p : α → Prop} {x : α} {l : List α} (h : p x) (h2 : ∀ y, y ∈ l → p y) : ∀ y, y ∈ (x :: l) → p y := fun y hy => by
  rcases List.mem_cons.1 hy with rfl | hy
  · exact h
  · exact h2 y hy
theorem ord_nil {α : Type} {p : α → Prop} : ∀ y, y ∈ ([] : List α) → p y := fun y hy => by cases hy
end
end Go.Proofs.YtnlmdeeadldgmaaGreatDoor.VL

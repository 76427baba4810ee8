/- The value logic, part 10b: regions that draw their order, but for their last operations, which wait for all others: these may change boxes. -/
import Derived.Test.YtkkhbmpcpilmfaaDoorVLDraw
import Derived.StillTail
set_option linter.unusedVariables false
set_option linter.unusedSimpArgs false
namespace Go.Proofs.YtkkhbmpcpilmfaaDoor.VL
open Go Go.RowKit Go.Lib

section
variable {P : Program} {E : Ent} {ops : Array Oper} {md : Region.Mode} {H : List Box}

def wpAnyLF (P : Program) (E : Ent) (md : Region.Mode) (ops : Array Oper) (H : List Box) (n : Nat) (L : Array Bool → Tmps → Prop) : Nat → Array Bool → Tmps → Prop
  | 0, listed, T => L listed T
  | f + 1, listed, T =>
    Region.ready md ops listed ≠ [] ∧ ∀ i ∈ Region.ready md ops listed, i < n ∧ qOpF P E ops H i (wpAnyLF P E md ops H n L f (listed.setIfInBounds i true)) T

theorem wpAny_of_headF {n g : Nat} {L : Array Bool → Tmps → Prop} {Q' : Exit → Act → World → Prop} (hL : ∀ listed T a w β, SimF E T H β a w → L listed T → wpAny P md ops Q' g listed a w) :
    ∀ (f : Nat) (listed : Array Bool) (T : Tmps) (β : Pl) (a : Act) (w : World), SimF E T H β a w → wpAnyLF P E md ops H n L f listed T → wpAny P md ops Q' (f + g) listed a w
  | 0, listed, T, β, a, w, hs, h => by rw [Nat.zero_add]; exact hL _ _ _ _ _ hs h
  | f + 1, listed, T, β, a, w, hs, h => by
    rw [show f + 1 + g = (f + g) + 1 by omega]
    exact ⟨fun h0 => absurd h0 h.1, fun i hi => wpOp_of_F hs (fun T a w β hs' hk => wpAny_of_headF hL f _ T β a w hs' hk) (h.2 i hi).2⟩

theorem wpAnyLF_first {n i : Nat} {oi : Oper} {v : AV} {L : Array Bool → Tmps → Prop} (hi : ops[i]? = some oi)
    (hs : Region.sinkB md ops n = true) (hc : Region.chainB md ops n = true) (hn : n < ops.size) (hin : i < n)
    (hdone : ∀ listed T, L listed T → ∀ j ∈ Region.ready md ops listed, n ≤ j) :
    ∀ (f : Nat) (listed : Array Bool) (T : Tmps), HeadInv md ops n listed →
      (∀ j oj, ops[j]? = some oj → j ≠ i → listed.getD j true = false → (∀ e ∈ oj.after, Region.binds md e = true → e.on ≠ i) → oi.apart ops oj = true) →
      i ∈ Region.ready md ops listed → QY P E ops H oi v T →
      wpAnyLF P E md ops H n L f (listed.setIfInBounds i true) (fput T oi.dst v) → wpAnyLF P E md ops H n L (f + 1) listed T := by
  intro f
  induction f with
  | zero =>
    intro listed T inv _ hr hy HH
    have hun := (mem_ready.1 hr).1
    refine ⟨fun h => (by rw [h] at hr; cases hr), fun j hj => ?_⟩
    have hjn : j < n := by
      rcases Nat.lt_or_ge j n with h | h
      · exact h
      · exact absurd hj (tail_waits hs hc hn inv _ i rfl hin hun j h)
    refine ⟨hjn, ?_⟩
    by_cases hji : j = i
    · subst hji; exact hy.qOp hi HH
    · have := hdone _ _ HH j (ready_mono hj hji)
      omega
  | succ f ih =>
    intro listed T inv hfree hr hy HH
    have hun := (mem_ready.1 hr).1
    refine ⟨fun h => (by rw [h] at hr; cases hr), fun j hj => ?_⟩
    have hjn : j < n := by
      rcases Nat.lt_or_ge j n with h | h
      · exact h
      · exact absurd hj (tail_waits hs hc hn inv _ i rfl hin hun j h)
    refine ⟨hjn, ?_⟩
    by_cases hji : j = i
    · subst hji; exact hy.qOp hi HH
    · have h1 := (HH.2 j (ready_mono hj hji)).2
      obtain ⟨hjun, oj, hoj, hall⟩ := mem_ready.1 hj
      have hnot : ∀ e ∈ oj.after, Region.binds md e = true → e.on ≠ i := fun e he hb heq => by
        have h1 := hall e he hb
        rw [heq, getD_both hun] at h1
        cases h1
      have h2 := qOpF_put hoj (hfree j oj hoj hji hjun hnot) hy h1
      have hfree' : ∀ k ok, ops[k]? = some ok → k ≠ i → (listed.setIfInBounds j true).getD k true = false →
          (∀ e ∈ ok.after, Region.binds md e = true → e.on ≠ i) → oi.apart ops ok = true := fun k ok hk hki hun hno => by
        refine hfree k ok hk hki ?_ hno
        by_cases hjk : j = k
        · subst hjk; exact hjun
        · rw [getD_set_ne true hjk] at hun; exact hun
      refine qOpF_mono (fun a' h3 => ih (listed.setIfInBounds j true) a' (inv.set hj hjn) hfree' (ready_mono hr (Ne.symm hji)) h3.1 ?_) h2
      rw [Array.setIfInBounds_comm _ _ hji]
      exact h3.2

theorem wpAnyLF_lex {n g : Nat} {Lq : Tmps → Prop} (hs : Region.sinkB md ops n = true) (hc : Region.chainB md ops n = true) (hn : n < ops.size) :
    ∀ (l : List Oper) (k : Nat) (listed : Array Bool) (T : Tmps), (∀ j, j < l.length → l[j]? = ops[k + j]?) → k + l.length = n → HeadInv md ops n listed →
    Region.lexHead md ops g l.length k listed = true → wpQ P E ops H Lq l T →
    wpAnyLF P E md ops H n (fun listed' T' => Region.seqB md ops g n listed' = true ∧ Lq T') l.length listed T
  | [], k, listed, T, _, hk, _, hB, h => by
    have : k = n := by simpa using hk
    subst this
    exact ⟨by simpa [Region.lexHead] using hB, h⟩
  | o :: l, k, listed, T, hl, hk, inv, hB, h => by
    have h0 : ops[k]? = some o := by simpa using (hl 0 (by simp)).symm
    simp only [List.length_cons, Region.lexHead, Bool.and_eq_true] at hB
    obtain ⟨⟨hr, hf⟩, hB'⟩ := hB
    have hkn : k < n := by simp only [List.length_cons] at hk; omega
    have hr' : k ∈ Region.ready md ops listed := by simpa using hr
    obtain ⟨v, hy, hK⟩ := h
    exact wpAnyLF_first h0 hs hc hn hkn (fun listed' a' hL => seqB_ready hL.1) l.length listed T inv (Region.free_spec h0 hf) hr' hy
      (wpAnyLF_lex hs hc hn l (k + 1) _ _ (fun j hj => by have := hl (j + 1) (by simp; omega); simpa [Nat.add_assoc, Nat.add_comm 1 j] using this) (by simp only [List.length_cons] at hk; omega) (inv.set hr' hkn) hB' hK)

theorem AWP.drawT {Q : AExit → ASt → Prop} {id : Nat} {os : List Oper} {l : List (Nat × AV)} (n : Nat) (hm : P.follows .mixedOrders = true) (hB : Region.lexTailB .any os.toArray n = true)
    (h : qops P E os.toArray H (fun l => aops P E os.toArray Q (os.drop n) ⟨l, H⟩) (os.take n) l) : AWP P E (.region id os.toArray true) Q ⟨l, H⟩ := fun a w ⟨β, hs⟩ => by
  simp only [Region.lexTailB, Bool.and_eq_true, decide_eq_true_eq] at hB
  obtain ⟨⟨⟨⟨hsel, hn⟩, hsi⟩, hc⟩, hlex⟩ := hB
  have hn' : n < os.length := by simpa using hn
  have htl : (os.take n).length = n := by simp; omega
  have hdl : (os.drop n).length = os.toArray.size - n := by simp
  obtain ⟨i1, i2⟩ := still (w' := { w with drawn := w.drawn + 1 }) hs.inv (Wor.drawn w _) (fun _ _ _ => rfl)
  have hsf : SimF E (lk l) H β a { w with drawn := w.drawn + 1 } := ⟨hs.defers, hs.size, i1, hs.stp.trans i2, fun k => (hs.tmps k).stp i2⟩
  have inv0 : HeadInv .any os.toArray n (Array.replicate os.toArray.size false) :=
    ⟨by simp, fun j oj _ hl => (by rw [getD_replicate_false] at hl; cases hl), fun t _ ht => getD_in (by simpa using ht) (getD_replicate_false _ _)⟩
  have HH := wpAnyLF_lex (P := P) (E := E) (H := H) (md := .any) (g := os.toArray.size - n) (Lq := fun T => ∃ l', T = lk l' ∧ aops P E os.toArray Q (os.drop n) ⟨l', H⟩) hsi hc hn (os.take n) 0 _ (lk l) (fun j hj => by
    have hj' : j < n := by rw [htl] at hj; exact hj
    simp [hj']) (by simpa using htl) inv0 (by rw [htl]; exact hlex) (wpQ_of_qops (fun l hq => ⟨l, rfl, hq⟩) _ _ h)
  refine wp_region_any hm ?_
  have := wpAny_of_headF (P := P) (E := E) (H := H) (md := .any) (Q' := lift E Q) (g := os.toArray.size - n) (fun listed T a' w' β' hs' hL => by
    obtain ⟨hq, l', rfl, ha⟩ := hL
    have hsim : Sim E ⟨l', H⟩ a' w' := ⟨β', ⟨hs'.defers, hs'.size, hs'.inv, hs'.stp, hs'.tmps⟩⟩
    have := wpAny_of_seq (md := .any) (Q' := lift E Q) (os.drop n) n listed a' w' (fun j => by simp [List.getElem?_drop]) (by rw [hdl]; exact hq) (aops_sound _ _ ha a' w' hsim)
    rwa [hdl] at this) _ _ _ _ _ _ hsf HH
  rw [htl, show n + (os.toArray.size - n) = os.toArray.size by omega] at this
  exact this
theorem AWP.drawT_k {Q : AExit → ASt → Prop} {id : Nat} {os : List Oper} {l : List (Nat × AV)} (hm : P.follows .mixedOrders = true) (hB : Region.lexTailB .any os.toArray (os.length - 1) = true)
    (h : ∀ Q' : AExit → ASt → Prop, (∀ e σ, Q e σ → Q' e σ) → qops P E os.toArray H (fun l => aops P E os.toArray Q' (os.drop (os.length - 1)) ⟨l, H⟩) (os.take (os.length - 1)) l) :
    AWP P E (.region id os.toArray true) Q ⟨l, H⟩ := AWP.drawT _ hm hB (h Q fun _ _ h => h)
end
end Go.Proofs.YtkkhbmpcpilmfaaDoor.VL

/- Layer 25: a row of cuts is sorted. -/
import Derived.Test.YtnoekcdmaaakfaaZNetPL
import Derived.Test.YtnoekcdmaaakfaaZNetDel
set_option linter.unusedVariables false
set_option linter.unusedSimpArgs false
set_option maxRecDepth 100000
namespace Go.Proofs.Ytnoekcdmaaakfaa.VL
open Go Go.RowKit Go.Lib Go.Shelf Go.Sort

/-- A cut's place. -/
def keyC (c : Ct) : Int := 8 * c.a + c.b
theorem ord8' (p c : Ct) (p1 : 0 ≤ p.a ∧ p.a < 8) (p2 : 0 ≤ p.b ∧ p.b < 8) (c1 : 0 ≤ c.a ∧ c.a < 8) (c2 : 0 ≤ c.b ∧ c.b < 8) : decide (ordC p c < 0) = decide (8 * p.a + p.b < 8 * c.a + c.b) := by
  refine decide_eq_decide.2 ?_
  unfold ordC
  split <;> constructor <;> intro h <;> omega
theorem uniq_sorted : ∀ (A B : List Ct), A.Perm B → A.Pairwise (fun x y => keyC x < keyC y) → B.Pairwise (fun x y => keyC x ≤ keyC y) → A = B
  | [], B, h, _, _ => (List.Perm.eq_nil h.symm).symm
  | a :: A, [], h, _, _ => by have := h.length_eq; simp at this
  | a :: A, b :: B, h, hA, hB => by
    have h1 := List.pairwise_cons.1 hA
    have h2 := List.pairwise_cons.1 hB
    have hab : a = b := by
      have ha : a ∈ b :: B := h.subset (List.mem_cons_self ..)
      have hb : b ∈ a :: A := h.symm.subset (List.mem_cons_self ..)
      rcases List.mem_cons.1 ha with e | ha
      · exact e
      rcases List.mem_cons.1 hb with e | hb
      · exact e.symm
      have := h2.1 a ha
      have := h1.1 b hb
      omega
    subst hab
    rw [uniq_sorted A B (List.Perm.cons_inv h) h1.2 h2.2]

theorem grow_wor : ∀ (l : List Obj) (w : World), Wor w (grow w l.toArray)
  | [], w => by rw [grow_empty]; exact Wor.refl w
  | o :: l, w => by
    have e : grow w (o :: l).toArray = grow (w.alloc o) l.toArray := by rw [alloc_eq_grow, grow_grow]; simp
    rw [e]
    exact (Wor.alloc w o).trans (grow_wor l _)
theorem grow_still {base : Nat} {w : World} {H : List Box} {β : Pl} (hI : Inv base w H β) (os : Array Obj) : Inv base (grow w os) H β ∧ Stp base w H β (grow w os) H β :=
  still hI (by have := grow_wor os.toList w; simpa using this) fun k x hk => cell?_grow w os _ hk

theorem enc_get : ∀ (m : List C8) (t : Nat), t < m.length * 2 → (m.flatMap enc8)[t]? = some ((enc8 (m[t / 2]!))[t % 2]!)
  | [], t, h => by simp at h
  | c :: m, 0, h => by simp [enc8]
  | c :: m, 1, h => by simp [enc8]
  | c :: m, t + 2, h => by
    have e1 : (t + 2) / 2 = t / 2 + 1 := by omega
    have e2 : (t + 2) % 2 = t % 2 := by omega
    have := enc_get m t (by simp only [List.length_cons] at h; omega)
    rw [e1, e2, List.flatMap_cons]
    show (_ :: _ :: (m.flatMap enc8))[t + 2]? = _
    rw [List.getElem?_cons_succ, List.getElem?_cons_succ, this]
    simp
theorem flat_len8 (m : List C8) : (m.flatMap enc8).length = m.length * 2 := by
  induction m with
  | nil => rfl
  | cons c m ih => rw [List.flatMap_cons, List.length_append, ih, List.length_cons]; simp [enc8]; omega
theorem flatK_list (m : List C8) : (flatK enc8 2 m.toArray).toList = m.flatMap enc8 := by
  apply List.ext_getElem?
  intro t
  by_cases h : t < m.length * 2
  · rw [enc_get m t h]
    simp [flatK, h]
  · rw [List.getElem?_eq_none (by simp; omega), List.getElem?_eq_none (by rw [flat_len8]; omega)]
theorem ctF_enc (m : List C8) : ctF (m.map (·.1)) = (m.flatMap enc8).map AV.v := by
  induction m with
  | nil => rfl
  | cons c m ih => rw [List.map_cons, ctF_cons, ih, List.flatMap_cons]; rfl
theorem splice_all (a c : List AV) (h : c.length = a.length) : splice a 0 c = c := by
  apply List.ext_getElem?
  intro t
  rw [splice_get _ _ _ _ (by omega)]
  by_cases ht : t < c.length
  · rw [if_pos ⟨Nat.zero_le _, by omega⟩, Nat.sub_zero]
  · rw [if_neg (by omega), List.getElem?_eq_none (by omega), List.getElem?_eq_none (by omega)]
theorem setMany_all (F : Array Value) (m : List C8) (h : F.size = m.length * 2) : setMany F 0 (m.flatMap enc8) = flatK enc8 2 m.toArray := by
  apply Array.ext
  · simp [h]
  · intro t h1 h2
    have hs : t < F.size := by simpa using h1
    have e := get_setMany (m.flatMap enc8) 0 F t hs
    rw [if_pos ⟨Nat.zero_le _, by rw [flat_len8]; omega⟩, Nat.sub_zero, getElem!_pos _ t h1] at e
    rw [e]
    have e2 : (flatK enc8 2 m.toArray)[t]? = some (flatK enc8 2 m.toArray)[t] := Array.getElem?_eq_getElem h2
    rw [← Array.getElem?_toList, flatK_list] at e2
    rw [getElem!_def, e2]

theorem swo8 : SWO (ltOf fun x y : C8 => ordC x.1 y.1) where
  irrefl x := by unfold ltOf; rw [ord8' x.1 x.1 x.2.1 x.2.2 x.2.1 x.2.2]; simp
  trans x y z h1 h2 := by
    unfold ltOf at *
    rw [ord8' x.1 y.1 x.2.1 x.2.2 y.2.1 y.2.2] at h1
    rw [ord8' y.1 z.1 y.2.1 y.2.2 z.2.1 z.2.2] at h2
    rw [ord8' x.1 z.1 x.2.1 x.2.2 z.2.1 z.2.2]
    simp only [decide_eq_true_eq] at *
    omega
  ntrans x y z h1 h2 := by
    unfold ltOf at *
    rw [ord8' x.1 y.1 x.2.1 x.2.2 y.2.1 y.2.2] at h1
    rw [ord8' y.1 z.1 y.2.1 y.2.2 z.2.1 z.2.2] at h2
    rw [ord8' x.1 z.1 x.2.1 x.2.2 z.2.1 z.2.2]
    simp only [decide_eq_false_iff_not] at *
    omega

end Go.Proofs.Ytnoekcdmaaakfaa.VL

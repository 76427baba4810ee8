/- Layer 25: what deeds leave right, plain. -/
import Derived.Test.YtnoekcdmaaakfaaZNetPE
import Derived.Test.YtnoekcdmaaakfaaZNetPH
import Derived.Test.YtnoekcdmaaakfaaZNetS
set_option linter.unusedVariables false
set_option linter.unusedSimpArgs false
namespace Go.Proofs.Ytnoekcdmaaakfaa.VL
open Go Go.RowKit Go.Lib

/-- A cut's place among the 28. -/
def rankC (c : Ct) : Int := (if c.a = 0 then 0 else if c.a = 1 then 7 else if c.a = 2 then 13 else if c.a = 3 then 18 else if c.a = 4 then 22 else if c.a = 5 then 25 else 27) + (c.b - c.a - 1)
theorem rank_lt {c d : Ct} (hc : ctOk c = true) (hd : ctOk d = true) (h : keyC c < keyC d) : rankC c < rankC d := by
  obtain ⟨⟨c1, c2⟩, ⟨c3, c4⟩, c5⟩ := ctOk_le hc
  obtain ⟨⟨d1, d2⟩, ⟨d3, d4⟩, d5⟩ := ctOk_le hd
  unfold keyC at h
  unfold rankC
  repeat' split
  all_goals omega
theorem rank_in {c : Ct} (hc : ctOk c = true) : 0 ≤ rankC c ∧ rankC c < 28 := by
  obtain ⟨⟨c1, c2⟩, ⟨c3, c4⟩, c5⟩ := ctOk_le hc
  unfold rankC
  repeat' split
  all_goals omega
theorem len28 : ∀ (l : List Ct) (k : Int), 0 ≤ k → k ≤ 28 → (∀ c ∈ l, ctOk c = true) → (∀ c ∈ l, k ≤ rankC c) → l.Pairwise (fun x y => keyC x < keyC y) → (l.length : Int) ≤ 28 - k
  | [], k, _, h, _, _, _ => by simp; omega
  | c :: l, k, h0, h28, h1, h2, h3 => by
    have hc := h1 c (List.mem_cons_self ..)
    have hr := rank_in hc
    have hk := h2 c (List.mem_cons_self ..)
    have hp := List.pairwise_cons.1 h3
    have := len28 l (rankC c + 1) (by omega) (by omega) (fun x hx => h1 x (List.mem_cons_of_mem _ hx)) (fun x hx => by
      have := rank_lt hc (h1 x (List.mem_cons_of_mem _ hx)) (hp.1 x hx)
      omega) hp.2
    simp only [List.length_cons]
    omega
theorem ntOk_of {n : Nt} (h1 : n.fl.length ≤ 60) (h3 : n.fl.all mlOk = true) (h4 : ∀ c ∈ n.cu, ctOk c = true) (h5 : n.cu.Pairwise (fun x y => keyC x < keyC y)) : ntOk n = true := by
  have h := len28 n.cu 0 (by omega) (by omega) h4 (fun c hc => (rank_in (h4 c hc)).1) h5
  unfold ntOk
  rw [h3, chain_ok.2 ⟨h4, h5⟩]
  simp
  omega
theorem ok_L {n : Nt} (h : ntOk n = true) : NtL n := by
  obtain ⟨h1, h2, h3, _⟩ := ntOk_cu h
  refine ⟨by omega, by omega, fun m hm => ?_⟩
  have := List.all_eq_true.1 h3 m hm
  unfold mlOk at this
  simp only [Bool.and_eq_true, decide_eq_true_eq] at this
  omega
theorem ok_ask {n : Nt} (h : ntOk n = true) {x : Int} (h0 : 0 ≤ x) : askN n x = if x < (n.fl.length : Int) then 0 else 7 := by
  unfold askN
  rw [if_neg (by rw [h]; simp)]
  by_cases hx : x < (n.fl.length : Int)
  · rw [if_neg (by omega), if_pos hx]
  · rw [if_pos (by omega), if_neg hx]
theorem ok_send {n : Nt} (h : ntOk n = true) {m : Ml} (hm : mlOk m = true) : sendN n [m] = if n.fl.length < 60 then (⟨n.fl ++ [m], n.cu⟩, 0, 0) else (n, 1, 0) := by
  have hl := (ntOk_cu h).1
  unfold sendN
  rw [h]
  simp only [Bool.true_and, List.all_cons, hm, List.all_nil, Bool.and_true, if_true]
  by_cases hx : n.fl.length < 60
  · rw [if_pos hx, List.take_of_length_le (by simp; omega)]
    simp
    omega
  · rw [if_neg hx, show 60 - n.fl.length = 0 by omega]
    simp
theorem ok_snoc {n : Nt} (h : ntOk n = true) (hl : n.fl.length < 60) {m : Ml} (hm : mlOk m = true) : ntOk ⟨n.fl ++ [m], n.cu⟩ = true := by
  obtain ⟨h1, h2, h3, h4, h5⟩ := ntOk_cu h
  exact ntOk_of (by simp; omega) (by dsimp only; rw [List.all_append, h3]; simp [hm]) h4 h5
theorem ok_drop {n : Nt} (h : ntOk n = true) (i : Nat) : ntOk (dropN n i) = true := by
  obtain ⟨h1, h2, h3, h4, h5⟩ := ntOk_cu h
  refine ntOk_of (by simp only [dropN, List.length_append, List.length_take, List.length_drop]; omega) (List.all_eq_true.2 fun x hx => ?_) h4 h5
  rcases List.mem_append.1 hx with hx | hx
  · exact List.all_eq_true.1 h3 x (List.mem_of_mem_take hx)
  · exact List.all_eq_true.1 h3 x (List.mem_of_mem_drop hx)
theorem sub_drop {n : Nt} {S : List Ml} (h : ∀ m ∈ n.fl, m ∈ S) (i : Nat) : ∀ m ∈ (dropN n i).fl, m ∈ S := fun m hm => by
  rcases List.mem_append.1 hm with hx | hx
  · exact h m (List.mem_of_mem_take hx)
  · exact h m (List.mem_of_mem_drop hx)
theorem ok_part {n : Nt} {a b : Int} (hw : wayN n a b false = 0) : ntOk ⟨n.fl, insC (cutC a b) n.cu⟩ = true ∧ blk ⟨n.fl, insC (cutC a b) n.cu⟩ b a = true := by
  obtain ⟨hok, hna, hnb, hab, hbl⟩ := way0 hw
  obtain ⟨h1, h2, h3, h4, h5⟩ := ntOk_cu hok
  have hck := cutC_ok hna hnb hab
  have hnk : ∀ x ∈ n.cu, keyC x ≠ keyC (cutC a b) := fun x hx e => by
    have := keyC_inj (h4 x hx) hck e
    unfold blk at hbl
    rw [List.any_eq_false] at hbl
    exact hbl x hx (decide_eq_true this.symm)
  have hmem := fun x => (insC_perm (cutC a b) n.cu).mem_iff (a := x)
  refine ⟨ntOk_of h1 h3 (fun c hc => ?_) (insC_pair _ _ h5 hnk), ?_⟩
  · rcases List.mem_append.1 ((hmem c).1 hc) with h | h
    · exact h4 c h
    · rw [List.mem_singleton.1 h]; exact hck
  · unfold blk
    refine List.any_eq_true.2 ⟨cutC a b, (hmem _).2 (by simp), decide_eq_true ?_⟩
    simp only [cutC, Ct.mk.injEq]
    omega
theorem ok_heal {n : Nt} {a b : Int} (hw : wayN n a b true = 0) : ntOk ⟨n.fl, n.cu.filter fun c => decide (c ≠ cutC a b)⟩ = true ∧ blk ⟨n.fl, n.cu.filter fun c => decide (c ≠ cutC a b)⟩ a b = false := by
  obtain ⟨hok, _⟩ := way0 hw
  obtain ⟨h1, h2, h3, h4, h5⟩ := ntOk_cu hok
  refine ⟨ntOk_of h1 h3 (fun c hc => h4 c (List.mem_filter.1 hc).1) (h5.sublist List.filter_sublist), ?_⟩
  unfold blk
  rw [List.any_eq_false]
  intro c hc
  have := (List.mem_filter.1 hc).2
  simp only [decide_eq_true_eq] at this ⊢
  exact fun e => this e.symm
theorem way_bad {n : Nt} (h : ntOk n = true) (a b : Int) (is : Bool) : wayN n a b is = 0 ∨ wayN n a b is = 1 ∨ wayN n a b is = 14 := by
  unfold wayN
  split
  · exact .inr (.inl rfl)
  · split
    · exact .inr (.inr rfl)
    · exact .inl rfl

end Go.Proofs.Ytnoekcdmaaakfaa.VL

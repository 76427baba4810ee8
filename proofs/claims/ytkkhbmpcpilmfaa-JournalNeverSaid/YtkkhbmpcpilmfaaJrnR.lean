/- Layer 13: the law of rings. -/
import Derived.Test.YtkkhbmpcpilmfaaJrnQ
import Derived.Test.YtkkhbmpcpilmfaaVLHoleT
-- STEPWISE
-- TAIL
-- HOLE 13 2 [(.same, [2, 3]), (.same, [2, 3]), (.same, [2, 3]), (.same, [2, 3]), (.same, [2, 3]), (.same, [2, 3]), (.same, [2, 3]), (.same, [2, 3]), (.same, [2, 3]), (.same, [2, 3]), (.same, [2, 3]), (.same, [2, 3]), (.same, [2, 3]), (.same, [2, 3]), (.same, [2, 3]), (.new 2, [3]), (.new 3, [2]), (.wr 2, []), (.wr 3, []), (.same, [])]
-- HOLE 16 0 [(.same, []), (.same, [0]), (.wr 0, []), (.wr 1, [])]
set_option linter.unusedVariables false
set_option linter.unusedSimpArgs false
set_option maxRecDepth 10000
namespace Go.Proofs.Ytkkhbmpcpilmfaa.VL
open Go Go.RowKit Go.Lib

abbrev rbox (D : Dk) : Box := ⟨[.lst 64 (secG D.s), vi D.f, vb D.d], 0, 0, false⟩
abbrev cbox (x : Rc) : Box := ⟨[vi x.q, vi x.g, vs x.n], 0, 0, false⟩

theorem rcount_le (n m : Nat) : ∀ i, rcount n m i ≤ i := by
  intro i
  induction i with
  | zero => simp [rcount]
  | succ i ih => rw [rcount]; split <;> omega
theorem lt_st (notes : List (List UInt8)) (n : Int) (h0 h1 : Nat) (e i : Int) (k : Nat) (hk : h0 < k ∧ h1 < k) : ∀ p ∈ ([(1, .lst 1 (strG notes)), (5, vi n), (6, .ptr h0 0 0), (8, .ptr h1 0 0), (9, vi e), (10, vi i)] : List (Nat × AV)), Lt k p.2 := fun p hp => by
  simp only [List.mem_cons, List.not_mem_nil, or_false] at hp
  rcases hp with rfl | rfl | rfl | rfl | rfl | rfl
  all_goals first | exact .v _ | exact lt_str _ | exact .ptr _ _ _ (by omega)
theorem lt_bx (s : List (List UInt8)) (f : Int) (d : Bool) (a b : Int) (c : List UInt8) (k : Nat) : ∀ bx ∈ ([⟨[.lst 64 (secG s), vi f, vb d], 0, 0, false⟩, ⟨[vi a, vi b, vs c], 0, 0, false⟩] : List Box), ∀ c ∈ bx.cells, Lt k c := fun bx hbx c' hc' => by
  simp only [List.mem_cons, List.not_mem_nil, or_false] at hbx
  rcases hbx with rfl | rfl <;> simp only [List.mem_cons, List.not_mem_nil, or_false] at hc' <;> rcases hc' with rfl | rfl | rfl
  all_goals first | exact .v _ | exact lt_sec _
theorem lt_st2 (notes : List (List UInt8)) (n : Int) (h0 h1 h2 : Nat) (e g i : Int) (k : Nat) (hk : h0 < k ∧ h1 < k ∧ h2 < k) {j : Int} : ∀ p ∈ ([(1, .lst 1 (strG notes)), (5, vi n), (6, .ptr h0 0 0), (8, .ptr h1 0 0), (9, vi e), (14, .ptr h2 0 0), (15, vi g), (16, vi i), (17, vi j)] : List (Nat × AV)), Lt k p.2 := fun p hp => by
  simp only [List.mem_cons, List.not_mem_nil, or_false] at hp
  rcases hp with rfl | rfl | rfl | rfl | rfl | rfl | rfl | rfl | rfl
  all_goals first | exact .v _ | exact lt_str _ | exact .ptr _ _ _ (by omega)
theorem lt_bx2 (s : List (List UInt8)) (f : Int) (d : Bool) (a b : Int) (c : List UInt8) (a' b' : Int) (c' : List UInt8) (k : Nat) : ∀ bx ∈ ([⟨[.lst 64 (secG s), vi f, vb d], 0, 0, false⟩, ⟨[vi a, vi b, vs c], 0, 0, false⟩, ⟨[vi a', vi b', vs c'], 0, 0, false⟩] : List Box), ∀ c ∈ bx.cells, Lt k c := fun bx hbx c' hc' => by
  simp only [List.mem_cons, List.not_mem_nil, or_false] at hbx
  rcases hbx with rfl | rfl | rfl <;> simp only [List.mem_cons, List.not_mem_nil, or_false] at hc' <;> rcases hc' with rfl | rfl | rfl
  all_goals first | exact .v _ | exact lt_sec _

end Go.Proofs.Ytkkhbmpcpilmfaa.VL

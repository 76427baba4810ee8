/- Layer 25: any way is healed. -/
import Derived.Test.YtnoekcdmaaakfaaZNetPG
-- STEPWISE
-- WK
-- HWR
set_option linter.unusedVariables false
set_option linter.unusedSimpArgs false
set_option maxRecDepth 10000
namespace Go.Proofs.Ytnoekcdmaaakfaa.VL
open Go Go.RowKit Go.Lib

/-- A way is healed. -/
def healN (n : Nt) (a b : Int) : Nt × Int := if wayN n a b true = 0 then (⟨n.fl, n.cu.filter fun c => decide (c ≠ cutC a b)⟩, 0) else (n, wayN n a b true)
theorem filter_at {l : List Ct} {c : Ct} {q : Nat} (hq : l[q]? = some c) (h1 : ∀ i x, i < q → l[i]? = some x → x ≠ c) (h2 : ∀ i x, q < i → l[i]? = some x → x ≠ c) : l.filter (fun x => decide (x ≠ c)) = l.take q ++ l.drop (q + 1) := by
  have hl := (List.getElem?_eq_some_iff.1 hq).1
  have e : l = l.take q ++ c :: l.drop (q + 1) := by
    have := List.drop_eq_getElem_cons hl
    rw [(List.getElem?_eq_some_iff.1 hq).2] at this
    rw [← this, List.take_append_drop]
  have f1 : (l.take q).filter (fun x => decide (x ≠ c)) = l.take q := List.filter_eq_self.2 fun x hx => by
    obtain ⟨i, hi, rfl⟩ := List.getElem_of_mem hx
    rw [List.length_take] at hi
    refine decide_eq_true (h1 i _ (by omega) ?_)
    rw [List.getElem_take]
    exact List.getElem?_eq_getElem _
  have f2 : (l.drop (q + 1)).filter (fun x => decide (x ≠ c)) = l.drop (q + 1) := List.filter_eq_self.2 fun x hx => by
    obtain ⟨i, hi, rfl⟩ := List.getElem_of_mem hx
    rw [List.length_drop] at hi
    refine decide_eq_true (h2 (q + 1 + i) _ (by omega) ?_)
    rw [List.getElem_drop]
    exact List.getElem?_eq_getElem _
  have : (l.take q ++ c :: l.drop (q + 1)).filter (fun x => decide (x ≠ c)) = l.take q ++ l.drop (q + 1) := by
    rw [List.filter_append, f1, List.filter_cons, if_neg (by simp), f2]
  rwa [← e] at this

set_option maxHeartbeats 8000000 in
theorem heal_spec (n : Nt) (hn : NtL n) (a b : Int) (H : List Box) : ASpec Try.prog 22 [ntV n, vi a, vi b] H (Gives (.tup [ntV (healN n a b).1, vi (healN n a b).2]) H) := by
  have hfl := hn.fl
  have hcu := hn.cu
  have hwy := fun H => way_spec n (by omega) (by omega) a b true H
  unfold healN
  by_cases hw : wayN n a b true = 0
  · rw [if_pos hw]
    rw [hw] at hwy
    obtain ⟨hok, hna, hnb, hab, hbl⟩ := way0 hw
    obtain ⟨_, c28, _, hcs, hpw⟩ := ntOk_cu hok
    obtain ⟨q, hq⟩ : ∃ q, n.cu[q]? = some (cutC a b) := by
      unfold blk at hbl
      obtain ⟨x, hx, hd⟩ := List.any_eq_true.1 hbl
      obtain rfl := of_decide_eq_true hd
      exact List.mem_iff_getElem?.1 hx
    have hql := (List.getElem?_eq_some_iff.1 hq).1
    have hpi := List.pairwise_iff_getElem.1 hpw
    have hb4 : ∀ i c, i < q → n.cu[i]? = some c → c ≠ cutC a b := fun i c hi hc e => by
      have h1 := (List.getElem?_eq_some_iff.1 hc).1
      have := hpi i q h1 hql hi
      rw [(List.getElem?_eq_some_iff.1 hc).2, (List.getElem?_eq_some_iff.1 hq).2, e] at this
      omega
    have haf : ∀ i c, q < i → n.cu[i]? = some c → c ≠ cutC a b := fun i c hi hc e => by
      have h1 := (List.getElem?_eq_some_iff.1 hc).1
      have := hpi q i hql h1 hi
      rw [(List.getElem?_eq_some_iff.1 hc).2, (List.getElem?_eq_some_iff.1 hq).2, e] at this
      omega
    have hft := filter_at hq hb4 haf
    have hfr := fun H => fresh_spec n (by omega) (by omega) hn.d H
    have hdf : ∀ (x0 x3 x4 x5 x6 : Box), ASpec Try.prog 41 [.sl (H.length + 7) 1 0 n.cu.length 2 false, .fn 42 [.ptr (H.length + 1) 0 0, .ptr (H.length + 2) 0 0]] (H ++ [x0, ⟨[vi a], 0, 0, false⟩, ⟨[vi b], 0, 0, false⟩, x3, x4, x5, x6, ⟨ctF n.cu, 0, 1, true⟩])
        (fun o H' => o = .ret (.sl (H.length + 7) 1 0 (n.cu.length - 1) 2 false) ∧ H' = H ++ [x0, ⟨[vi a], 0, 0, false⟩, ⟨[vi b], 0, 0, false⟩, x3, x4, x5, x6, ⟨ctF (n.cu.filter fun c => decide (c ≠ cutC a b)) ++ [vi 0, vi 0], 0, 1, true⟩]) := fun x0 x3 x4 x5 x6 => by
      have h := delf_spec a b n.cu q hq hb4 haf (by omega) (H.length + 7) 1 (H.length + 1) (H.length + 2) (H ++ [x0, ⟨[vi a], 0, 0, false⟩, ⟨[vi b], 0, 0, false⟩, x3, x4, x5, x6, ⟨ctF n.cu, 0, 1, true⟩]) (app_at _ _ 1 rfl) (app_at _ _ 2 rfl) (app_at _ _ 7 rfl) (by omega) (by omega)
      rw [List.set_append_right _ _ (by omega), Nat.add_sub_cancel_left, ← hft] at h
      exact h
    have hRl : (n.cu.filter fun c => decide (c ≠ cutC a b)).length = n.cu.length - 1 := by
      rw [hft, List.length_append, List.length_take, List.length_drop]; omega
    have hmf := mlF_length n.fl
    clear hft hb4 haf hpi hq hbl hcs hpw hok hw hab hna hnb
    generalize (n.cu.filter fun c => decide (c ≠ cutC a b)) = R at *
    have hRc := chunk_ctF R
    have hRx : chunk 2 R.length (ctF R ++ [vi 0, vi 0]) = ctG R := by
      rw [← hRc]
      have : ∀ (k : Nat) (A B : List AV), k * 2 ≤ A.length → chunk 2 k (A ++ B) = chunk 2 k A := fun k => by
        induction k with
        | zero => intros; rfl
        | succ k ih =>
          intro A B hA
          rw [chunk, chunk, List.take_append_of_le_length (by omega), List.drop_append_of_le_length (by omega), ih _ _ (by rw [List.length_drop]; omega)]
      exact this _ _ _ (by rw [ctF_length]; omega)
    obtain ⟨fl, cu⟩ := n
    dsimp only at *
    have k2 : H.length + 4 + 2 = H.length + 6 := rfl
    have k3 : H.length + 4 + 3 = H.length + 7 := rfl
    refine ASpec.enter Try.func22 rfl (fun a w => Try.call22 a w) Try.ntmps22 Try.results22 fun base w β hI => ?_
    refine wk (wA k2 (wA k3 wT)) (wA hwy (wA hfr (wA hdf (wA DrM.mk wT)))) ?_
    refine wkEnd wT ?_
    exact Fin.netG (n := ⟨fl, R⟩) (app_at _ _ 6 rfl) (app_at _ _ 7 rfl) (by dsimp only; omega) (by dsimp only; omega) (by omega) rfl rfl (by dsimp only; omega) (by dsimp only; rw [List.length_append, ctF_length]; omega) (chunk_mlF fl) (by rw [← hRl]; exact hRx) (.cons_tup (.v _) .nil_tup) ⟨rfl, rfl⟩
  · rw [if_neg hw]
    generalize wayN n a b true = e at *
    obtain ⟨fl, cu⟩ := n
    refine ASpec.enter Try.func22 rfl (fun a w => Try.call22 a w) Try.ntmps22 Try.results22 fun base w β hI => ?_
    refine wk (wA hw wT) (wA hwy (wA DrM.mk wT)) ?_
    refine wkEnd wT ?_
    exact Fin.cut (.cons_tup (lt_nt ⟨fl, cu⟩) (.cons_tup (.v _) .nil_tup)) ⟨rfl, rfl⟩

end Go.Proofs.Ytnoekcdmaaakfaa.VL

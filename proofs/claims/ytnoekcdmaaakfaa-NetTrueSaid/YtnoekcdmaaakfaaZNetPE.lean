/- Layer 25: any way is cut. -/
import Derived.Test.YtnoekcdmaaakfaaZNetPD
-- STEPWISE
-- WK
-- HWR
set_option linter.unusedVariables false
set_option linter.unusedSimpArgs false
set_option maxRecDepth 10000
namespace Go.Proofs.Ytnoekcdmaaakfaa.VL
open Go Go.RowKit Go.Lib

theorem ctF_snoc (l : List Ct) (c : Ct) : ctF (l ++ [c]) = ctF l ++ [vi c.a, vi c.b] := by simp [ctF, flat]
set_option maxHeartbeats 8000000 in
theorem part_spec (n : Nt) (hn : NtL n) (a b : Int) (H : List Box) : ASpec Try.prog 21 [ntV n, vi a, vi b] H (Gives (.tup [ntV (partN n a b).1, vi (partN n a b).2]) H) := by
  have hfl := hn.fl
  have hcu := hn.cu
  have hwy := fun H => way_spec n (by omega) (by omega) a b false H
  unfold partN
  by_cases hw : wayN n a b false = 0
  · rw [if_pos hw]
    rw [hw] at hwy
    obtain ⟨hok, hna, hnb, hab, hbl⟩ := way0 hw
    obtain ⟨_, c28, _, hcs, hpw⟩ := ntOk_cu hok
    have hck := cutC_ok hna hnb hab
    have hnk : ∀ x ∈ n.cu, keyC x ≠ keyC (cutC a b) := fun x hx e => by
      have := keyC_inj (hcs x hx) hck e
      unfold blk at hbl
      rw [List.any_eq_false] at hbl
      exact hbl x hx (decide_eq_true this.symm)
    obtain ⟨m, hm⟩ : ∃ m : List C8, m.map (·.1) = n.cu ++ [cutC a b] :=
      ⟨(n.cu ++ [cutC a b]).attach.map fun c => ⟨c.1, by
        rcases List.mem_append.1 c.2 with h | h
        · obtain ⟨h1, h2, _⟩ := ctOk_le (hcs _ h)
          exact ⟨h1, h2⟩
        · rw [List.mem_singleton.1 h]
          obtain ⟨h1, h2, _⟩ := ctOk_le hck
          exact ⟨h1, h2⟩⟩, by rw [List.map_map]; exact List.attach_map_subtype_val _⟩
    have hml : m.length = n.cu.length + 1 := by have := congrArg List.length hm; simpa using this
    have hso : ∀ (x0 x1 x2 x3 x4 : Box), ASpec Try.prog 39 [.sl (H.length + 5) 2 0 (n.cu.length + 1) 2 false, .fn 40 []] (H ++ [x0, x1, x2, x3, x4, ⟨ctF (n.cu ++ [cutC a b]), 0, 2, true⟩])
        (fun o H' => o = .ret (.tup []) ∧ H' = H ++ [x0, x1, x2, x3, x4, ⟨ctF (insC (cutC a b) n.cu), 0, 2, true⟩]) := fun x0 x1 x2 x3 x4 => by
      have h := sortC_spec (H.length + 5) 2 m (insC (cutC a b) n.cu) (by rw [hm]; exact insC_perm _ _) (insC_pair _ _ hpw hnk) (by omega) (by omega) (H ++ [x0, x1, x2, x3, x4, ⟨ctF (n.cu ++ [cutC a b]), 0, 2, true⟩]) (by rw [hm]; exact app_at _ _ 5 rfl)
      rw [hml, List.set_append_right _ _ (by omega), Nat.add_sub_cancel_left] at h
      exact h
    have hfr := fun H => fresh_spec n (by omega) (by omega) hn.d H
    have hct := fun H => cut_spec25 a b H
    have hmf := mlF_length n.fl
    have hcl := ctF_length n.cu
    have hsn := ctF_snoc n.cu (cutC a b)
    have hil : (insC (cutC a b) n.cu).length = n.cu.length + 1 := by rw [(insC_perm _ _).length_eq]; simp
    have hbb : (n.cu.length + 1) * 16 ≤ 140737488355328 := by omega
    clear hm hml hnk hbl hcs hpw hok hw hck hab hna hnb m
    generalize insC (cutC a b) n.cu = R at *
    generalize ctF (n.cu ++ [cutC a b]) = X at *
    generalize cutC a b = c at *
    obtain ⟨ca, cb⟩ := c
    obtain ⟨fl, cu⟩ := n
    dsimp only at *
    have k2 : H.length + 2 + 2 = H.length + 4 := rfl
    have k3 : H.length + 2 + 3 = H.length + 5 := rfl
    refine ASpec.enter Try.func21 rfl (fun a w => Try.call21 a w) Try.ntmps21 Try.results21 fun base w β hI => ?_
    refine wk (wA k2 (wA k3 (wA hcl (wA hbb (wA (Eq.symm hsn) wT))))) (wA hwy (wA hfr (wA hct (wA hso (wA holP5 (wA DrM.mk wT)))))) ?_
    refine wkEnd wT ?_
    exact Fin.netG (n := ⟨fl, R⟩) (app_at _ _ 4 rfl) (app_at _ _ 5 rfl) (by dsimp only; omega) (by dsimp only; omega) (by omega) rfl rfl (by dsimp only; omega) (by dsimp only; rw [ctF_length]; omega) (chunk_mlF fl) (by have := chunk_ctF R; rwa [hil] at this) (.cons_tup (.v _) .nil_tup) ⟨rfl, rfl⟩
  · rw [if_neg hw]
    generalize wayN n a b false = e at *
    obtain ⟨fl, cu⟩ := n
    refine ASpec.enter Try.func21 rfl (fun a w => Try.call21 a w) Try.ntmps21 Try.results21 fun base w β hI => ?_
    refine wk (wA hw wT) (wA hwy (wA DrM.mk wT)) ?_
    refine wkEnd wT ?_
    exact Fin.cut (.cons_tup (lt_nt ⟨fl, cu⟩) (.cons_tup (.v _) .nil_tup)) ⟨rfl, rfl⟩

end Go.Proofs.Ytnoekcdmaaakfaa.VL

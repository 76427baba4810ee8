/- Layer 25: mails of new memory. -/
import Derived.Test.YtnoekcdmaaakfaaZCd
import Derived.Test.YtnoekcdmaaakfaaZNetB
-- STEPWISE
-- WK
set_option linter.unusedVariables false
set_option linter.unusedSimpArgs false
set_option maxRecDepth 10000
namespace Go.Proofs.Ytnoekcdmaaakfaa.VL
open Go Go.RowKit Go.Lib

theorem mlF_cons (m : Ml) (l : List Ml) : mlF (m :: l) = vi m.f :: vi m.t :: vB m.d :: mlF l := by simp [mlF, flat]
theorem ctF_cons (m : Ct) (l : List Ct) : ctF (m :: l) = vi m.a :: vi m.b :: ctF l := by simp [ctF, flat]
theorem mlF_get : ∀ (l : List Ml) (i : Nat) (m : Ml), l[i]? = some m → (mlF l)[i * 3]? = some (vi m.f) ∧ (mlF l)[i * 3 + 1]? = some (vi m.t) ∧ (mlF l)[i * 3 + 2]? = some (vB m.d)
  | [], i, m, h => by simp at h
  | x :: l, 0, m, h => by
    simp at h; subst h
    rw [mlF_cons]
    exact ⟨rfl, rfl, rfl⟩
  | x :: l, i + 1, m, h => by
    have ih := mlF_get l i m (by simpa using h)
    rw [mlF_cons, Nat.succ_mul]
    simpa [Nat.add_assoc] using ih
theorem lt_mlF {n : Nat} (l : List Ml) : ∀ c ∈ mlF l, Lt n c := by
  induction l with
  | nil => intro c hc; simp [mlF, flat] at hc
  | cons m l ih =>
    intro c hc
    rw [mlF_cons] at hc
    simp only [List.mem_cons] at hc
    rcases hc with rfl | rfl | rfl | hc
    · exact .v _
    · exact .v _
    · exact (lt_bytes _).mono (Nat.zero_le _)
    · exact ih c hc
theorem lt_ctF {n : Nat} (l : List Ct) : ∀ c ∈ ctF l, Lt n c := by
  induction l with
  | nil => intro c hc; simp [ctF, flat] at hc
  | cons m l ih =>
    intro c hc
    rw [ctF_cons] at hc
    simp only [List.mem_cons] at hc
    rcases hc with rfl | rfl | hc
    · exact .v _
    · exact .v _
    · exact ih c hc

theorem set_same0 {α : Type} {l : List α} {i : Nat} {c : α} (h : l[i]? = some c) : l.set i c = l := by
  apply List.ext_getElem?
  intro k
  by_cases hk : k = i
  · subst hk; rw [List.getElem?_set_self (List.getElem?_eq_some_iff.1 h).1, h]
  · rw [List.getElem?_set_ne (Ne.symm hk)]
theorem app_at (H N : List Box) (i : Nat) {x : Box} (h : N[i]? = some x) : (H ++ N)[H.length + i]? = some x := by
  rw [List.getElem?_append_right (by omega)]; simpa using h

set_option maxHeartbeats 4000000 in
theorem own_spec (l : List Ml) (hl : l.length ≤ 1099511627776) (hd : ∀ m ∈ l, m.d.length ≤ 70368744177664) (H : List Box) : ASpec Try.prog 28 [.lst 3 (mlG l)] H (OwnsM l H) := by
  have hcl := fun H => cloneM_spec l hl H
  refine ASpec.enter Try.func28 rfl (fun a w => Try.call28 a w) Try.ntmps28 Try.results28 fun base w β hI => ?_
  refine wk wT (wA hcl (wA DrM.mk wT)) ?_
  refine AWP.loop (ι := {i : Nat // i ≤ l.length}) (fun p => ⟨[(0, .sl H.length 0 0 l.length 3 false), (7, vi l.length), (8, vi p.1)], H ++ [⟨mlF l, 0, 0, true⟩]⟩) (fun p => l.length - p.1) ⟨0, Nat.zero_le _⟩ ?_ ?_
  · dsimp only
    exact Coe.kp
  · rintro ⟨i, hi⟩
    dsimp only
    by_cases hc : (i : Int) < (l.length : Int)
    · have hg : l[i]? = some l[i] := List.getElem?_eq_getElem (by omega)
      have hm := hd l[i] (List.getElem_mem _)
      generalize l[i] = m at hg hm
      obtain ⟨_, _, g3⟩ := mlF_get l i m hg
      have hb := fun H => bclone_spec m.d hm H
      obtain ⟨f, t, d⟩ := m
      dsimp only at hb g3 hm
      have hlen := mlF_length l
      have hlt : i * 3 + 2 < (mlF l).length := by omega
      refine wk (wA hc (wA g3 (wA hlen wT))) (wA hb (wA DrM.mk wT)) ?_
      refine ⟨⟨i + 1, by omega⟩, ?_, by dsimp only; omega⟩
      dsimp only
      have hset : ((mlF l).set (i * 3 + 2) (.sl (H.length + 1) 0 0 d.length 1 false)).set (i * 3 + 2) (.lst 1 (bytesG d)) = mlF l := by
        rw [List.set_set]
        exact set_same0 g3
      refine Coe.trans (Coe.freezeCell (k := H.length + 0) (j := i * 3 + 2) (m := H.length + 1) (g := 0) (n := d.length) (sz := 1) (app_at _ _ 0 rfl) (by dsimp only; rw [List.getElem?_set_self hlt]) (app_at _ _ 1 rfl) rfl (by omega) (by dsimp only; rw [bytesC_length]; omega) (chunk_bytesC d _ rfl)) ?_
      dsimp only
      rw [hset, List.set_append_right _ _ (by omega), List.set_append_right _ _ (by omega)]
      simp only [Nat.add_sub_cancel_left, Nat.add_zero, Nat.sub_self, List.set_cons_zero, List.set_cons_succ]
      refine Coe.cutN (M := [_]) ?_ ?_ ?_
      · exact Keeps.kp wT
      · simp only [List.mem_cons, List.not_mem_nil, or_false, forall_eq_or_imp, forall_eq, List.length_cons, List.length_nil]
        exact ⟨.sl _ _ _ _ _ _ (by omega), .v _, .v _⟩
      · simp only [List.mem_cons, List.not_mem_nil, or_false, forall_eq]
        exact lt_mlF l
    · have : i = l.length := by omega
      subst this
      refine wk (wA hc wT) (wA DrM.mk wT) ?_
      refine wkEnd wT ?_
      exact ⟨_, _, Shed.refl _ _ _, rfl, rfl⟩

end Go.Proofs.Ytnoekcdmaaakfaa.VL

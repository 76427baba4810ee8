/- Layer 4: an entry put in its place, as the reference does it. -/
import Derived.Test.YtnoekcdmaaakfaaDoorZEntA
-- STEPWISE
-- WK
set_option linter.unusedVariables false
set_option linter.unusedSimpArgs false
set_option maxRecDepth 10000
namespace Go.Proofs.YtnoekcdmaaakfaaDoor.VL
open Go Go.RowKit Go.Lib

theorem putGo_drop (x : En) {l : List En} {i : Nat} {y : En} (h : l[i]? = some y) (p : Bool) :
    putGo x (l.drop i) p = (if p = false ∧ x.k ≤ y.k then [x] else []) ++ ((if y.k = x.k then [] else [y]) ++ putGo x (l.drop (i + 1)) (p || decide (x.k ≤ y.k))) := by
  have hi := (List.getElem?_eq_some_iff.1 h).1
  rw [List.drop_eq_getElem_cons hi, putGo, (List.getElem?_eq_some_iff.1 h).2]
theorem lt_enC' {n : Nat} {l : List En} {c : AV} (h : c ∈ enF l) : Lt n c := by
  simp only [enF, flat, List.mem_flatten, List.mem_map] at h
  obtain ⟨g, ⟨x, _, rfl⟩, h⟩ := h
  simp only [List.mem_cons, List.not_mem_nil, or_false] at h
  rcases h with rfl | rfl | rfl <;> exact .v _
theorem appAt (H N : List Box) (i : Nat) {x : Box} (h : N[i]? = some x) : (H ++ N)[H.length + i]? = some x := by
  rw [List.getElem?_append_right (by omega)]; simpa using h
theorem cap32 {n : Nat} (h : n ≤ 1048579) : n * 32 ≤ 140737488355328 := by omega
/-- One's own row, to be read from now on. -/
theorem Fin.enR {E : Ent} {N : List Box} {b g n : Nat} {l : List En} {bx : Box} (hb : (E.H ++ N)[b]? = some bx) (hge : E.H.length ≤ b) (hg : bx.gen = g) (hc : bx.cells = enF l) (hn : n = l.length) :
    Fin E (.sl b g 0 n 3 false) (E.H ++ N) (fun r H => Gives (.lst 3 (enG l)) E.H (.ret r) H) := by
  subst hn
  exact Fin.frozG (G := enG l) hb hge hg (by rw [hc, enF_length]; exact Nat.le_refl _) (by rw [hc]; exact chunk_enF l) (fun w H β v hx hr => hx v hr) (lt_en l) ⟨rfl, rfl⟩

set_option maxHeartbeats 4000000 in
theorem refPut_spec (l : List En) (x : En) (hl : l.length ≤ 1048576) (H : List Box) : ASpec Tryd.prog 19 [.lst 3 (enG l), .agg (enC x)] H (Gives (.lst 3 (enG (putGo x l false))) H) := by
  have hlen := putGo_len x l false
  obtain ⟨xk, xv, xs⟩ := x
  generalize hP : putGo ⟨xk, xv, xs⟩ l false = P at *
  refine ASpec.enter Tryd.func19 rfl (fun a w => Tryd.call19 a w) Tryd.ntmps19 Tryd.results19 fun base w β hI => ?_
  refine wk wT (wA DrM.mk wT) ?_
  refine AWP.loop (ι := {p : Nat × List En × Bool // p.1 ≤ l.length ∧ P = p.2.1 ++ putGo ⟨xk, xv, xs⟩ (l.drop p.1) p.2.2})
    (fun p => ⟨[(0, .lst 3 (enG l)), (3, .ptr H.length 0 0), (5, .sl (H.length + 1) p.1.2.1.length 0 p.1.2.1.length 3 false), (6, vb p.1.2.2), (7, vi p.1.1)], H ++ [⟨[vi xk, vi xv, vs xs], 0, 0, false⟩, ⟨enF p.1.2.1, 0, p.1.2.1.length, true⟩]⟩) (fun p => l.length - p.1.1) ⟨(0, [], false), Nat.zero_le _, hP.symm⟩ ?_ ?_
  · dsimp only
    exact Coe.emp (t := 5) (sz := 3) (N := [_]) rfl (Keeps.kp wT)
  · rintro ⟨⟨i, out, p⟩, hi, he⟩
    dsimp only at hi he ⊢
    clear hP
    by_cases hc : (i : Int) < (l.length : Int)
    · have hg : l[i]? = some l[i] := List.getElem?_eq_getElem (by omega)
      rw [putGo_drop _ hg] at he
      generalize l[i] = y at *
      obtain ⟨yk, yv, ys⟩ := y
      dsimp only at he
      have hol : out.length ≤ l.length + 1 := by
        refine Nat.le_trans ?_ hlen
        rw [he, List.length_append]
        exact Nat.le_add_right _ _
      have ha1 : (out.length + 1) * 32 ≤ 140737488355328 := cap32 (by omega)
      have ha2 : (out.length + 1 + 1) * 32 ≤ 140737488355328 := cap32 (by omega)
      have s1 : enF out ++ [vi xk, vi xv, vs xs] = enF (out ++ [⟨xk, xv, xs⟩]) := enF_snoc out ⟨xk, xv, xs⟩
      have s2 : enF out ++ [vi yk, vi yv, vs ys] = enF (out ++ [⟨yk, yv, ys⟩]) := enF_snoc out ⟨yk, yv, ys⟩
      have s3 : enF (out ++ [⟨xk, xv, xs⟩]) ++ [vi yk, vi yv, vs ys] = enF (out ++ [⟨xk, xv, xs⟩] ++ [⟨yk, yv, ys⟩]) := enF_snoc _ ⟨yk, yv, ys⟩
      have l1 : ∀ z : En, (out ++ [z]).length = out.length + 1 := fun z => by simp
      have l2 : ∀ z z' : En, (out ++ [z] ++ [z']).length = out.length + 1 + 1 := fun z z' => by simp
      have l1x := l1 ⟨xk, xv, xs⟩
      cases p with
      | true =>
        rw [if_neg (by simp), Bool.true_or, List.nil_append, ← List.append_assoc] at he
        by_cases hk : yk = xk
        · rw [if_pos hk, List.append_nil] at he
          refine wk (wA hc (wA hg (wA hk wT))) (wA DrM.mk wT) ?_
          refine ⟨⟨(i + 1, out, true), by dsimp only; omega, he⟩, ?_, by dsimp only; omega⟩
          dsimp only
          exact Coe.kp
        · rw [if_neg hk] at he
          refine wk (wA hc (wA hg (wA hk (wA ha1 (wA s2 wT))))) (wA DrM.mk wT) ?_
          refine ⟨⟨(i + 1, out ++ [⟨yk, yv, ys⟩], true), by dsimp only; omega, he⟩, ?_, by dsimp only; omega⟩
          dsimp only
          rw [l1]
          exact Coe.kp
      | false =>
        rw [Bool.false_or] at he
        by_cases hle : xk ≤ yk
        · rw [if_pos ⟨rfl, hle⟩, decide_eq_true hle, ← List.append_assoc, ← List.append_assoc] at he
          by_cases hk : yk = xk
          · rw [if_pos hk, List.append_nil] at he
            obtain rfl : xk = yk := hk.symm
            refine wk (wA hc (wA hg (wA hle (wA ha1 (wA s1 (wA l1x wT)))))) (wA DrM.mk wT) ?_
            refine ⟨⟨(i + 1, out ++ [⟨xk, xv, xs⟩], true), by dsimp only; omega, he⟩, ?_, by dsimp only; omega⟩
            dsimp only
            rw [l1]
            exact Coe.kp
          · rw [if_neg hk] at he
            refine wk (wA hc (wA hg (wA hle (wA hk (wA ha1 (wA ha2 (wA s1 (wA s3 (wA l1x wT))))))))) (wA DrM.mk wT) ?_
            refine ⟨⟨(i + 1, out ++ [⟨xk, xv, xs⟩] ++ [⟨yk, yv, ys⟩], true), by dsimp only; omega, he⟩, ?_, by dsimp only; omega⟩
            dsimp only
            rw [l2]
            exact Coe.kp
        · rw [if_neg (by simp [hle]), decide_eq_false hle, List.nil_append, ← List.append_assoc] at he
          have hk : ¬ yk = xk := by omega
          rw [if_neg hk] at he
          refine wk (wA hc (wA hg (wA hle (wA hk (wA ha1 (wA s2 wT)))))) (wA DrM.mk wT) ?_
          refine ⟨⟨(i + 1, out ++ [⟨yk, yv, ys⟩], false), by dsimp only; omega, he⟩, ?_, by dsimp only; omega⟩
          dsimp only
          rw [l1]
          exact Coe.kp
    · rw [List.drop_of_length_le (by omega), putGo] at he
      have hol : out.length ≤ l.length + 1 := by
        refine Nat.le_trans ?_ hlen
        rw [he, List.length_append]
        exact Nat.le_add_right _ _
      have ha1 : (out.length + 1) * 32 ≤ 140737488355328 := cap32 (by omega)
      have s1 : enF out ++ [vi xk, vi xv, vs xs] = enF (out ++ [⟨xk, xv, xs⟩]) := enF_snoc out ⟨xk, xv, xs⟩
      cases p with
      | true =>
        rw [if_pos rfl, List.append_nil] at he
        rw [he]
        refine wk (wA hc wT) (wA DrM.mk wT) ?_
        refine wkEnd wT ?_
        exact Fin.enR (N := [_, _]) (appAt _ _ 1 rfl) (Nat.le_add_right _ _) rfl rfl rfl
      | false =>
        rw [if_neg (by simp)] at he
        rw [he]
        refine wk (wA hc (wA ha1 (wA s1 wT))) (wA DrM.mk wT) ?_
        refine wkEnd wT ?_
        exact Fin.enR (N := [_, _]) (appAt _ _ 1 rfl) (Nat.le_add_right _ _) rfl rfl (by simp)

end Go.Proofs.YtnoekcdmaaakfaaDoor.VL

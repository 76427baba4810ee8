/- Layer 4: an entry put in its place, as the reference does it. -/
import Derived.Test.YtjkdahpoalnjjaaDoorZEntA
-- STEPWISE
-- WK
set_option linter.unusedVariables false
set_option linter.unusedSimpArgs false
set_option maxRecDepth 10000
namespace Go.Proofs.YtjkdahpoalnjjaaDoor.VL
open Go Go.RowKit Go.Lib

theorem putGo_drop (x : En) {l : List En} {i : Nat} {y : En} (h : l[i]? = some y) (p : Bool) :
    putGo x (l.drop i) p = (if p = false ∧ x.k ≤ y.k then [x] else []) ++ ((if y.k = x.k then [] else [y]) ++ putGo x (l.drop (i + 1)) (p || decide (x.k ≤ y.k))) := by
  have hi := (List.getElem?_eq_some_iff.1 h).1
  rw [List.drop_eq_getElem_cons hi, putGo, (List.getElem?_eq_some_iff.1 h).2]
theorem lt_enC' {n : Nat} {l : List En} {c : AV} (h : c ∈ enF l) : Lt n c := by
  simp only [enF, flat, List.mem_flatten, List.mem_map] at h
  obtain ⟨g, ⟨x, _, rfl⟩, h⟩ := h
  simp only [List.mem_cons, List.not_mem_nil, or_false] at h
  rcases h with rfl | rfl | rfl <;> exact .v _
theorem appAt (H N : List Box) (i : Nat) {x : Box} (h : N[i]? = some x) : (H ++ N)[H.length + i]? = some x := by
  rw [List.getElem?_append_right (by omega)]; simpa using h
theorem cap32 {n : Nat} (h : n ≤ 1048579) : n * 32 ≤ 140737488355328 := by omega
/-- One's own row, to be read from now on. -/
theorem Fin.enR {E : Ent} {N : List Box} {b g n : Nat} {l : List En} {bx : Box} (hb : (E.H ++ N)[b]? = some bx) (hge : E.H.length ≤ b) (hg : bx.gen = g) (hc : bx.cells = enF l) (hn : n = l.length) :
    Fin E (.sl b g 0 n 3 false) (E.H ++ N) (fun r H => Gives (.lst 3 (enG l)) E.H (.ret r) H) := by
  subst hn
  exact Fin.frozG (G := enG l) hb hge hg (by rw [hc, enF_length]; exact Nat.le_refl _) (by rw [hc]; exact chunk_enF l) (fun w H β v hx hr => hx v hr) (lt_en l) ⟨rfl, rfl⟩

end Go.Proofs.YtjkdahpoalnjjaaDoor.VL

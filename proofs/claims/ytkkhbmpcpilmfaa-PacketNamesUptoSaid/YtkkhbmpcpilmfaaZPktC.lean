/- Layer 17: whether a packet may be, as the program says. -/
import Derived.Test.YtkkhbmpcpilmfaaZCd
import Derived.Test.YtkkhbmpcpilmfaaZPktB
-- STEPWISE
-- WK
-- TAIL
set_option linter.unusedVariables false
set_option linter.unusedSimpArgs false
set_option maxRecDepth 10000
namespace Go.Proofs.Ytkkhbmpcpilmfaa.VL
open Go Go.RowKit Go.Lib

theorem Fin.cutL {E : Ent} {r : AV} {N : List Box} {K : AV → List Box → Prop} (hr : Lt E.H.length r) (h : K r E.H) : Fin E r (E.H ++ N) K :=
  ⟨r, E.H, fun w β v hI hs h => by
    obtain ⟨h1, h2, h3⟩ := cut_inv hI hs (fun i bx hi j c hj => E.inv.ltCells hi hj) (Nat.le_refl _)
    exact ⟨β, h1, h2, h3 r v hr h⟩, h⟩
theorem lists_spec (p : Pk) (b g : Nat) (H : List Box) {bx : Box} (hb : H[b]? = some bx) (hg : bx.gen = g) (hc : bx.cells.length = 6) : ASpec Try.prog 31 [.ptr b g 0] H (Gives (.agg [.ptr b g 3, .ptr b g 4, .ptr b g 5]) H) := by
  have hbl : b < H.length := (List.getElem?_eq_some_iff.1 hb).1
  have hb2 : ∀ N : List Box, (H ++ N)[b]? = some bx := fun N => by rw [List.getElem?_append_left hbl]; exact hb
  refine ASpec.enter Try.func31 rfl (fun a w => Try.call31 a w) Try.ntmps31 Try.results31 fun base w β hI => ?_
  refine wk (wA hb2 (wA hg (wA hc wT))) (wA TlM.mk wT) ?_
  refine wkEnd wT ?_
  exact Fin.cutL ((Lt.ptr _ _ _ hbl).cons_agg ((Lt.ptr _ _ _ hbl).cons_agg ((Lt.ptr _ _ _ hbl).cons_agg .nil_agg))) ⟨rfl, rfl⟩

/-- The conditions so far, of the first i lists. -/
def pOk0 (p : Pk) : Bool := win p.id 65535 && (win p.fl 65535 && qsOk p.q)
def pOkTo (p : Pk) : Nat → Bool
  | 0 => pOk0 p
  | 1 => pOk0 p && rsOk p.a
  | 2 => (pOk0 p && rsOk p.a) && rsOk p.u
  | _ => ((pOk0 p && rsOk p.a) && rsOk p.u) && rsOk p.m
theorem pOkTo_all (p : Pk) : pOkTo p 3 = pOk p := by
  simp only [pOkTo, pOk0, pOk, Bool.and_assoc]

def rOkL (l : List Rr) : Prop := ∀ q ∈ l, q.n.length ≤ 9223372036854775807 ∧ q.d.length ≤ 9223372036854775807
structure PkL (p : Pk) : Prop where
  q : ∀ q ∈ p.q, q.n.length ≤ 9223372036854775807
  a : rOkL p.a
  u : rOkL p.u
  m : rOkL p.m
  lq : p.q.length ≤ 9223372036854775807
  la : p.a.length ≤ 9223372036854775807
  lu : p.u.length ≤ 9223372036854775807
  lm : p.m.length ≤ 9223372036854775807

set_option maxHeartbeats 4000000 in
theorem pktRight_loop (p : Pk) (hp : PkL p) (E : Ent) (hE : E.n = 32) (Q : AExit → ASt → Prop) (body : Code) (hbody : (Try.f19.body).bind firstLoop = some body)
    (hQ : ∀ l, lk l 3 = vb (pOk p) → Q (.exit 0) ⟨l, E.H ++ [⟨pkC p, 0, 0, false⟩]⟩) :
    AWP Try.prog E (.loop body) Q ⟨[(3, vb (pOkTo p 0)), (19, .agg [.ptr E.H.length 0 3, .ptr E.H.length 0 4, .ptr E.H.length 0 5]), (20, vi 0)], E.H ++ [⟨pkC p, 0, 0, false⟩]⟩ := by
  have aa := fun H => allRr_spec p.a hp.la hp.a H
  have au := fun H => allRr_spec p.u hp.lu hp.u H
  have am := fun H => allRr_spec p.m hp.lm hp.m H
  have e1 : pOkTo p 1 = (pOkTo p 0 && rsOk p.a) := rfl
  have e2 : pOkTo p 2 = (pOkTo p 1 && rsOk p.u) := rfl
  have e3 : pOkTo p 3 = (pOkTo p 2 && rsOk p.m) := rfl
  rw [← pOkTo_all] at hQ
  generalize rsOk p.a = x4 at *
  generalize rsOk p.u = x5 at *
  generalize rsOk p.m = x6 at *
  generalize pOkTo p = G at *
  obtain ⟨id, fl, q, a, u, m⟩ := p
  obtain ⟨base, n, w, H, β, hI⟩ := E
  dsimp only at *
  subst hE
  dsimp only [firstLoop, Option.bind, Try.f19] at hbody
  injection hbody with hbody
  subst hbody
  refine AWP.loop (ι := {i : Nat // i ≤ 3}) (fun p => ⟨[(3, vb (G p.1)), (19, .agg [.ptr H.length 0 3, .ptr H.length 0 4, .ptr H.length 0 5]), (20, vi p.1)], H ++ [⟨pkC ⟨id, fl, q, a, u, m⟩, 0, 0, false⟩]⟩) (fun p => 3 - p.1) ⟨0, by omega⟩ ?_ ?_
  · dsimp only
    exact Coe.kp
  · rintro ⟨i, hi⟩
    dsimp only
    rcases i with _ | _ | _ | _ | i
    · cases hg : G 0
      · rw [hg, Bool.false_and] at e1
        refine wk wT (wA TlM.mk wT) ?_
        refine ⟨⟨1, by omega⟩, ?_, by dsimp only; omega⟩
        dsimp only
        rw [e1]
        exact Coe.kp
      · rw [hg, Bool.true_and] at e1
        refine wk wT (wA aa (wA TlM.mk wT)) ?_
        refine ⟨⟨1, by omega⟩, ?_, by dsimp only; omega⟩
        dsimp only
        rw [e1]
        exact Coe.kp
    · cases hg : G 1
      · rw [hg, Bool.false_and] at e2
        refine wk wT (wA TlM.mk wT) ?_
        refine ⟨⟨2, by omega⟩, ?_, by dsimp only; omega⟩
        dsimp only
        rw [e2]
        exact Coe.kp
      · rw [hg, Bool.true_and] at e2
        refine wk wT (wA au (wA TlM.mk wT)) ?_
        refine ⟨⟨2, by omega⟩, ?_, by dsimp only; omega⟩
        dsimp only
        rw [e2]
        exact Coe.kp
    · cases hg : G 2
      · rw [hg, Bool.false_and] at e3
        refine wk wT (wA TlM.mk wT) ?_
        refine ⟨⟨3, by omega⟩, ?_, by dsimp only; omega⟩
        dsimp only
        rw [e3]
        exact Coe.kp
      · rw [hg, Bool.true_and] at e3
        refine wk wT (wA am (wA TlM.mk wT)) ?_
        refine ⟨⟨3, by omega⟩, ?_, by dsimp only; omega⟩
        dsimp only
        rw [e3]
        exact Coe.kp
    · refine wk wT (wA TlM.mk wT) ?_
      exact hQ _ rfl
    · omega

set_option maxHeartbeats 4000000 in
theorem pktRight_spec (p : Pk) (hp : PkL p) (H : List Box) : ASpec Try.prog 19 [.agg (pkC p)] H (Gives (vb (pOk p)) H) := by
  have w1 := fun H => within_spec p.id 65535 H
  have w2 := fun H => within_spec p.fl 65535 H
  have aq := fun H => allQn_spec p.q hp.lq hp.q H
  have hli := lists_spec p H.length 0 (H ++ [⟨pkC p, 0, 0, false⟩]) (bx := ⟨pkC p, 0, 0, false⟩) (by simp) rfl rfl
  have e0 : pOkTo p 0 = (win p.id 65535 && (win p.fl 65535 && qsOk p.q)) := rfl
  have hloop := fun E hE Q => pktRight_loop p hp E hE Q _ rfl
  generalize win p.id 65535 = x1 at *
  generalize win p.fl 65535 = x2 at *
  generalize qsOk p.q = x3 at *
  rw [e0] at hloop
  obtain ⟨id, fl, q, a, u, m⟩ := p
  dsimp only at *
  cases x1
  · refine ASpec.enter Try.func19 rfl (fun a w => Try.call19 a w) Try.ntmps19 Try.results19 fun base w β hI => ?_
    refine wk wT (wA w1 (wA w2 (wA aq (wA hli (wA TlM.mk wT))))) ?_
    refine AWP.coe ?_ (hloop _ rfl _ ?_)
    · exact Coe.kp
      all_goals rfl
    · intro l hl
      refine wk (wA hl wT) (wA TlM.mk wT) ?_
      refine wkEnd wT ?_
      exact Fin.cut (.v _) ⟨rfl, rfl⟩
  cases x2
  · refine ASpec.enter Try.func19 rfl (fun a w => Try.call19 a w) Try.ntmps19 Try.results19 fun base w β hI => ?_
    refine wk wT (wA w1 (wA w2 (wA aq (wA hli (wA TlM.mk wT))))) ?_
    refine AWP.coe ?_ (hloop _ rfl _ ?_)
    · exact Coe.kp
      all_goals rfl
    · intro l hl
      refine wk (wA hl wT) (wA TlM.mk wT) ?_
      refine wkEnd wT ?_
      exact Fin.cut (.v _) ⟨rfl, rfl⟩
  cases x3
  · refine ASpec.enter Try.func19 rfl (fun a w => Try.call19 a w) Try.ntmps19 Try.results19 fun base w β hI => ?_
    refine wk wT (wA w1 (wA w2 (wA aq (wA hli (wA TlM.mk wT))))) ?_
    refine AWP.coe ?_ (hloop _ rfl _ ?_)
    · exact Coe.kp
      all_goals rfl
    · intro l hl
      refine wk (wA hl wT) (wA TlM.mk wT) ?_
      refine wkEnd wT ?_
      exact Fin.cut (.v _) ⟨rfl, rfl⟩
  · refine ASpec.enter Try.func19 rfl (fun a w => Try.call19 a w) Try.ntmps19 Try.results19 fun base w β hI => ?_
    refine wk wT (wA w1 (wA w2 (wA aq (wA hli (wA TlM.mk wT))))) ?_
    refine AWP.coe ?_ (hloop _ rfl _ ?_)
    · exact Coe.kp
      all_goals rfl
    · intro l hl
      refine wk (wA hl wT) (wA TlM.mk wT) ?_
      refine wkEnd wT ?_
      exact Fin.cut (.v _) ⟨rfl, rfl⟩

end Go.Proofs.Ytkkhbmpcpilmfaa.VL

/- Layer 17: the law on what is built. -/
import Derived.Test.YtkkhbmpcpilmfaaZCd
import Derived.Test.YtkkhbmpcpilmfaaZPktX
import Derived.Test.YtkkhbmpcpilmfaaZPktRB
import Derived.Test.YtkkhbmpcpilmfaaZPktRC
import Derived.Test.YtkkhbmpcpilmfaaZPktRD
import Derived.Test.YtkkhbmpcpilmfaaZPktRE
-- STEPWISE
-- WK
set_option linter.unusedVariables false
set_option linter.unusedSimpArgs false
set_option maxRecDepth 10000
namespace Go.Proofs.Ytkkhbmpcpilmfaa.VL
open Go Go.RowKit Go.Lib

theorem szP_pkL {p : Pk} (h : szP p ≤ 1048576) : PkL p := by
  obtain ⟨lq, la, lu, lm, sq, sa, su, sm⟩ := szP_parts h
  have hr : ∀ (l : List Rr), szR l ≤ 1048576 → rOkL l := fun l hl r hr => by have := szR_mem hr; omega
  exact ⟨fun q hq => by have := szQ_mem hq; omega, hr _ sa, hr _ su, hr _ sm, by omega, by omega, by omega, by omega⟩
theorem bldP_err {p : Pk} {lim : Int} (h : (bldP p lim).2 ≠ 0) : (pOk p = false ∧ (bldP p lim).2 = 1) ∨ (bldP p lim).2 = 4 := by
  unfold bldP at h ⊢
  split
  · rename_i h1; exact .inl ⟨h1, rfl⟩
  · rename_i h1
    rw [if_neg h1] at h
    split
    · exact .inr rfl
    · rename_i h2; rw [if_neg h2] at h; exact absurd rfl h
theorem bldP_ok {p : Pk} {lim : Int} (h : (bldP p lim).2 = 0) : pOk p = true := by
  cases hp : pOk p with
  | true => rfl
  | false => unfold bldP at h; rw [if_pos hp] at h; simp at h

set_option maxHeartbeats 16000000 in
theorem packetBack_spec (p : Pk) (hp : szP p ≤ 1048576) (lim : Int) (hl0 : 0 ≤ lim) (hl1 : lim ≤ 65535) (H : List Box) : ASpec Try.prog 3 [.agg (pkC p), .v (.int .u16 lim)] H (Gives (vb true) H) := by
  have ha := fun H => alive17_spec H
  have hg := fun H => great_spec p hp H
  have hb := fun H => pktBuild_spec p (szP_pkL hp) lim H
  obtain ⟨lq, la, lu, lm, sq, sa, su, sm⟩ := szP_parts hp
  by_cases hgr : 3000 < szP p
  · rw [decide_eq_true hgr] at hg
    refine ASpec.enter Try.func3 rfl (fun a w => Try.call3 a w) Try.ntmps3 Try.results3 fun base w β hI => ?_
    refine wk wT (wA ha (wA hg wT)) ?_
    refine wkEnd wT ?_
    exact Fin.cut (.v _) ⟨rfl, rfl⟩
  rw [decide_eq_false hgr] at hg
  by_cases he : (bldP p lim).2 = 0
  rotate_left
  · have hr := fun H => refRight17_spec p hp H
    unfold bldV at hb
    rw [if_neg he] at hb
    rcases bldP_err he with ⟨h1, h2⟩ | h2
    · rw [h1] at hr
      rw [h2] at hb
      clear hgr he h1 h2 sq sa su sm
      refine ASpec.enter Try.func3 rfl (fun a w => Try.call3 a w) Try.ntmps3 Try.results3 fun base w β hI => ?_
      refine wk wT (wA ha (wA hg (wA hb (wA hr wT)))) ?_
      refine wkEnd wT ?_
      exact Fin.cut (.v _) ⟨rfl, rfl⟩
    · rw [h2] at hb
      refine ASpec.enter Try.func3 rfl (fun a w => Try.call3 a w) Try.ntmps3 Try.results3 fun base w β hI => ?_
      refine wk wT (wA ha (wA hg (wA hb wT))) ?_
      refine wkEnd wT ?_
      exact Fin.cut (.v _) ⟨rfl, rfl⟩
  have hok := bldP_ok he
  have hlaw := back_law hok hl1 he
  unfold bldV at hb
  rw [if_pos he, he] at hb
  generalize (bldP p lim).1 = b at *
  generalize (fill1 p lim).2.1 = n1 at *
  generalize (fill2 p lim).2.1 = n2 at *
  generalize (fill3 p lim).2.1 = n3 at *
  generalize (fill3 p lim).2.2 = cut at *
  obtain ⟨e1, e2, e3, e4, e5, e6, e7⟩ := hlaw
  have hbl : b.length ≤ 65535 := by omega
  have hps := fun H => pktParse_spec b (by omega) H
  unfold psV at hps
  rw [e1, if_pos rfl, e3] at hps
  have hpo := pOk_len hok
  have hok' := hok
  unfold pOk at hok'
  simp only [Bool.and_eq_true] at hok'
  obtain ⟨_, _, _, ka, ku, km⟩ := hok'
  unfold rsOk at ka ku km
  simp only [Bool.and_eq_true, decide_eq_true_eq, List.all_eq_true] at ka ku km
  have hnl : ∀ (l : List Rr) (n : Nat), (∀ r ∈ l, rOk r = true) → ∀ r ∈ (l.take n).map (backR p), r.n.length ≤ 1048576 := fun l n hl r hr => by
    obtain ⟨r0, h1, rfl⟩ := List.mem_map.1 hr
    have := (rOk_len (lab_backR (p := p) (hl r0 (List.mem_of_mem_take h1))).1).n
    omega
  have hml : ∀ (l : List Rr), szR l ≤ 1048576 → ∀ r ∈ l, r.n.length ≤ 1048576 := fun l hl r hr => by have := szR_mem hr; omega
  have hll : ∀ (l : List Rr) (n : Nat), n ≤ l.length → ((l.take n).map (backR p)).length = n := fun l n hn => by rw [List.length_map, List.length_take]; omega
  have lxa := hll p.a n1 e4
  have lxu := hll p.u n2 e5
  have lxm := hll p.m n3 e6
  have ba := fun H => begins_spec ((p.a.take n1).map (backR p)) p.a (by omega) (by omega) (hnl _ _ ka.2) (hml _ sa) H
  have bu := fun H => begins_spec ((p.u.take n2).map (backR p)) p.u (by omega) (by omega) (hnl _ _ ku.2) (hml _ su) H
  have bm := fun H => begins_spec ((p.m.take n3).map (backR p)) p.m (by omega) (by omega) (hnl _ _ km.2) (hml _ sm) H
  rw [bgn_back p p.a n1 ka.2] at ba
  rw [bgn_back p p.u n2 ku.2] at bu
  rw [bgn_back p p.m n3 km.2] at bm
  have hq := fun H => refSameQ_spec p.q p.q (by omega) (by omega) H
  rw [decide_eq_true rfl] at hq
  generalize (p.a.take n1).map (backR p) = xa at *
  generalize (p.u.take n2).map (backR p) = xu at *
  generalize (p.m.take n3).map (backR p) = xm at *
  clear hnl hml hll hpo hok he
  have hnle : ¬ lim < (b.length : Int) := by omega
  obtain ⟨id, fl, q, a, u, m⟩ := p
  dsimp only at *
  cases cut with
  | false =>
    obtain ⟨w1, w2, w3⟩ := e7.1 rfl
    have c1 : (xa.length : Int) = (a.length : Int) := by omega
    have c2 : (xu.length : Int) = (u.length : Int) := by omega
    have c3 : (xm.length : Int) = (m.length : Int) := by omega
    simp only [Bool.false_eq_true, if_false] at hps
    refine ASpec.enter Try.func3 rfl (fun a w => Try.call3 a w) Try.ntmps3 Try.results3 fun base w β hI => ?_
    refine wk (wA (eq_true c1) (wA (eq_true c2) (wA (eq_true c3) (wA hnle wT)))) (wA ha (wA hg (wA hb (wA hps (wA ba (wA bu (wA bm (wA hq wT)))))))) ?_
    refine wkEnd wT ?_
    exact Fin.cut (.v _) ⟨rfl, rfl⟩
  | true =>
    have hnot : ¬ (n1 = a.length ∧ n2 = u.length ∧ n3 = m.length) := fun h => by have := e7.2 h; cases this
    simp only [if_true] at hps
    by_cases c1 : (xa.length : Int) = (a.length : Int)
    rotate_left
    · refine ASpec.enter Try.func3 rfl (fun a w => Try.call3 a w) Try.ntmps3 Try.results3 fun base w β hI => ?_
      refine wk (wA c1 (wA hnle wT)) (wA ha (wA hg (wA hb (wA hps (wA ba (wA bu (wA bm (wA hq wT)))))))) ?_
      refine wkEnd wT ?_
      exact Fin.cut (.v _) ⟨rfl, rfl⟩
    by_cases c2 : (xu.length : Int) = (u.length : Int)
    rotate_left
    · refine ASpec.enter Try.func3 rfl (fun a w => Try.call3 a w) Try.ntmps3 Try.results3 fun base w β hI => ?_
      refine wk (wA (eq_true c1) (wA c2 (wA hnle wT))) (wA ha (wA hg (wA hb (wA hps (wA ba (wA bu (wA bm (wA hq wT)))))))) ?_
      refine wkEnd wT ?_
      exact Fin.cut (.v _) ⟨rfl, rfl⟩
    have c3 : ¬ (xm.length : Int) = (m.length : Int) := by omega
    refine ASpec.enter Try.func3 rfl (fun a w => Try.call3 a w) Try.ntmps3 Try.results3 fun base w β hI => ?_
    refine wk (wA (eq_true c1) (wA (eq_true c2) (wA c3 (wA hnle wT)))) (wA ha (wA hg (wA hb (wA hps (wA ba (wA bu (wA bm (wA hq wT)))))))) ?_
    refine wkEnd wT ?_
    exact Fin.cut (.v _) ⟨rfl, rfl⟩

end Go.Proofs.Ytkkhbmpcpilmfaa.VL

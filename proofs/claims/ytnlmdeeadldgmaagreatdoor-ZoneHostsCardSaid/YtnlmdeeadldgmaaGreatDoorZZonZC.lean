/- Layer 18: the law of hosts. -/
import Derived.Test.YtnlmdeeadldgmaaGreatDoorZZonZB
import Derived.Test.YtnlmdeeadldgmaaGreatDoorZG38
-- STEPWISE
-- WK
-- HOLE 11 1 [(.same, [1]), (.same, [1]), (.same, [1]), (.same, [1]), (.same, [1]), (.same, [1]), (.same, [1]), (.same, [1]), (.same, [1]), (.same, [1]), (.new 1, []), (.wr 1, []), (.same, [])]
set_option linter.unusedVariables false
set_option linter.unusedSimpArgs false
set_option maxRecDepth 10000
namespace Go.Proofs.YtnlmdeeadldgmaaGreatDoor.VL
open Go Go.RowKit Go.Lib

theorem holM_ZonZC_11 : HolM 11 1 [(.same, [1]), (.same, [1]), (.same, [1]), (.same, [1]), (.same, [1]), (.same, [1]), (.same, [1]), (.same, [1]), (.same, [1]), (.same, [1]), (.new 1, []), (.wr 1, []), (.same, [])] := ⟨⟩

set_option maxHeartbeats 16000000 in
theorem zoneHosts_spec (s : Sc) (hs : ScAny s) (H : List Box) : ASpec Tryz.prog 6 [.agg (scC s)] H (Gives (vb true) H) := by
  have ha := fun H => alive18_spec H
  have g1 := fun H => great18_spec s hs.v hs.n hs.a hs.d H
  have g2 := fun H => right6_spec s.v hs.v hs.n H
  cases hg : great18 s with
  | true =>
    rw [hg] at g1
    obtain ⟨v, a, d⟩ := s
    refine ASpec.enter Tryz.func6 rfl (fun a w => Tryz.call6 a w) Tryz.ntmps6 Tryz.results6 fun base w β hI => ?_
    refine wk wT (wA ha (wA g1 (wA holM_ZonZC_11 (wA DrM.mk wT)))) ?_
    refine wkEnd wT ?_
    exact Fin.cut (.v _) ⟨rfl, rfl⟩
  | false =>
  rw [hg] at g1
  cases hv : ndOk s.v with
  | false =>
    rw [hv] at g2
    obtain ⟨v, a, d⟩ := s
    refine ASpec.enter Tryz.func6 rfl (fun a w => Tryz.call6 a w) Tryz.ntmps6 Tryz.results6 fun base w β hI => ?_
    refine wk wT (wA ha (wA g1 (wA g2 (wA holM_ZonZC_11 (wA DrM.mk wT))))) ?_
    refine wkEnd wT ?_
    exact Fin.cut (.v _) ⟨rfl, rfl⟩
  | true =>
  rw [hv] at g2
  obtain ⟨hi, hd, _, hvl⟩ := sc_in hg hv
  have e1 := fun H => counts_spec s hi H
  have hnl : (numsN s).length ≤ s.v.length := by
    unfold numsN
    rw [List.length_map]
    exact List.length_filter_le _ _
  have e2 := fun n H => host_spec s n (by omega) H
  have e3 := fun n H => get6_spec s.v n hi.v hi.n H
  have e4 := fun name (h : name.length ≤ 255) t H => tell_spec s name t hi (by omega) H
  have e5 := fun name (h : name.length ≤ 255) H => exists_spec s name hi (by omega) H
  have e6 := fun name (h : name.length ≤ 255) H => refUnder_spec name s.d (by omega) (by omega) H
  have e7 := fun x (hx : x ∈ cntL s) key H => address15_spec x.s.a key (by have := (hi.c hx).a; omega) H
  have hget : ∀ i n, (numsN s)[i]? = some n → ∃ x ∈ cntL s, x.n = n := fun i n h => by
    unfold numsN at h
    rw [List.getElem?_map] at h
    obtain ⟨x, h1, h2⟩ := Option.map_eq_some_iff.1 h
    exact ⟨x, List.mem_of_getElem? h1, h2⟩
  have hstN : ∀ x ∈ cntL s, stNd s.v x.n = x.s := fun x hx => by
    unfold stNd
    rw [getN_mem (ndGo_pw hv).2 (cntL_mem hx).1]
  generalize hM : numsN s = M at *
  have hML : (M.length : Int) ≤ (s.v.length : Int) := by omega
  have hM8 : (M.length : Int) ≤ 8 := by omega
  refine ASpec.enter Tryz.func6 rfl (fun a w => Tryz.call6 a w) Tryz.ntmps6 Tryz.results6 fun base w β hI => ?_
  refine wk wT (wA ha (wA g1 (wA g2 (wA e1 (wA holM_ZonZC_11 (wA DrM.mk wT)))))) ?_
  refine AWP.loop (ι := {i : Nat // i ≤ M.length}) (fun p => ⟨[(1, .ptr H.length 0 0), (3, .lst 1 (inG M)), (4, vi p.1)], H ++ [⟨scC s, 0, 0, false⟩]⟩) (fun p => M.length - p.1) ⟨0, Nat.zero_le _⟩ ?_ ?_
  · dsimp only
    exact Coe.kp
  · rintro ⟨i, hil⟩
    dsimp only
    clear e1 ha g1 g2
    by_cases hc : (i : Int) < (M.length : Int)
    · have hgm : M[i]? = some M[i] := List.getElem?_eq_getElem (by omega)
      obtain ⟨x, hx, hxn⟩ := hget i _ hgm
      generalize M[i] = n at *
      subst hxn
      have f2 := e2 x.n
      have f3 := e3 x.n
      rw [hstN x hx] at f3
      have hhl := hostN_len s.d x.n
      have f7 := e7 x hx
      have hz1 := fun h => host_tells hv hx h 1 1 (.inl ⟨rfl, rfl⟩)
      have hz2 := fun h => host_tells hv hx h 2 28 (.inr ⟨rfl, rfl⟩)
      have hz3 := host_exists (s := s) hx
      have hz4 := host_under (d := s.d) (n := x.n)
      have f4 := e4 _ hhl
      have f5 := e5 _ hhl
      have f6 := e6 _ hhl
      unfold tellN at f4
      clear e2 e3 e4 e5 e6 e7 hget hstN
      generalize (getN s.v x.n).isSome = gok at *
      generalize hostN s.d x.n = h at *
      obtain ⟨h, ok⟩ := h
      cases ok with
      | false =>
        clear f3 f4 f5 f6 f7 hz1 hz2 hz3 hz4
        refine wk (wA hc (wA hgm wT)) (wA f2 (wA holM_ZonZC_11 (wA DrM.mk wT))) ?_
        refine ⟨⟨i + 1, by omega⟩, ?_, by dsimp only; omega⟩
        dsimp only
        exact Coe.kp
      | true =>
        have hz1 := hz1 rfl
        have hz2 := hz2 rfl
        have hz3 := hz3 rfl
        have hz4 := hz4 rfl
        dsimp only at *
        rw [hz3] at f5
        rw [hz4] at f6
        have k1 := f4 1
        have k2 := f4 28
        rw [hz1] at k1
        rw [hz2] at k2
        have a1 := f7 1
        have a2 := f7 2
        clear f4 f7 hz1 hz2 hz3 hz4
        obtain ⟨xn, ⟨xg, xb, xa⟩⟩ := x
        dsimp only at *
        generalize addrE xa 1 = z1 at *
        generalize addrE xa 2 = z2 at *
        obtain ⟨z1, o1⟩ := z1
        obtain ⟨z2, o2⟩ := z2
        clear hx hv hi hd hvl hM hnl hg hs
        obtain ⟨v, a, d⟩ := s
        dsimp only at *
        refine wk (wA hc (wA hgm wT)) (wA f2 (wA f3 (wA holM_ZonZC_11 (wA DrM.mk wT)))) ?_
        refine AWP.loop (ι := {k : Int // k = 1 ∨ k = 2 ∨ k = 3}) (fun p => ⟨[(1, .ptr H.length 0 0), (3, .lst 1 (inG M)), (4, vi i), (5, vs h), (7, .ptr (H.length + 1) 1 0), (9, vi p.1)], H ++ [⟨scC ⟨v, a, d⟩, 0, 0, false⟩, ⟨stC ⟨xg, xb, xa⟩, 0, 1, false⟩]⟩) (fun p => (3 - p.1).toNat) ⟨1, .inl rfl⟩ ?_ ?_
        · dsimp only
          exact Coe.kp
        · have q1 : ((1 : Int) - 1).toNat = 0 := rfl
          have q2 : ((2 : Int) - 1).toNat = 1 := rfl
          rintro ⟨k, rfl | rfl | rfl⟩
          · cases o1 with
            | true =>
              simp only [if_true, List.map_cons, List.map_nil, toldN] at k1
              refine wk (wA q1 wT) (wA a1 (wA k1 (wA f5 (wA f6 (wA holM_ZonZC_11 (wA DrM.mk wT)))))) ?_
              refine ⟨⟨2, by omega⟩, ?_, by dsimp only; omega⟩
              dsimp only
              exact Coe.kp
            | false =>
              simp only [Bool.false_eq_true, if_false, List.map_nil] at k1
              refine wk (wA q1 wT) (wA a1 (wA k1 (wA f5 (wA f6 (wA holM_ZonZC_11 (wA DrM.mk wT)))))) ?_
              refine ⟨⟨2, by omega⟩, ?_, by dsimp only; omega⟩
              dsimp only
              exact Coe.kp
          · cases o2 with
            | true =>
              simp only [if_true, List.map_cons, List.map_nil, toldN] at k2
              refine wk (wA q2 wT) (wA a2 (wA k2 (wA f5 (wA f6 (wA holM_ZonZC_11 (wA DrM.mk wT)))))) ?_
              refine ⟨⟨3, by omega⟩, ?_, by dsimp only; omega⟩
              dsimp only
              exact Coe.kp
            | false =>
              simp only [Bool.false_eq_true, if_false, List.map_nil] at k2
              refine wk (wA q2 wT) (wA a2 (wA k2 (wA f5 (wA f6 (wA holM_ZonZC_11 (wA DrM.mk wT)))))) ?_
              refine ⟨⟨3, by omega⟩, ?_, by dsimp only; omega⟩
              dsimp only
              exact Coe.kp
          · refine wk wT (wA holM_ZonZC_11 (wA DrM.mk wT)) ?_
            refine ⟨⟨i + 1, by omega⟩, ?_, by dsimp only; omega⟩
            dsimp only
            exact Coe.cutN (M := [⟨scC ⟨v, a, d⟩, 0, 0, false⟩]) (N := [_]) (Keeps.kp wT) (by
              intro p hp
              simp only [List.mem_cons, List.not_mem_nil, or_false] at hp
              rcases hp with rfl | rfl | rfl
              · exact .ptr _ _ _ (by simp)
              · exact lt_in _
              · exact .v _) (by
              intro bx hbx c hcm
              simp only [List.mem_cons, List.not_mem_nil, or_false] at hbx
              subst hbx
              exact lt_scC _ hcm)
    · have hML' : (M.length : Int) ≤ ((ndG s.v).length : Int) := by simp only [ndG_length]; exact hML
      obtain ⟨v, a, d⟩ := s
      dsimp only at *
      refine wk (wA hc (wA hML wT)) (wA holM_ZonZC_11 (wA DrM.mk wT)) ?_
      refine wkEnd wT ?_
      exact Fin.cut (.v _) ⟨rfl, rfl⟩

end Go.Proofs.YtnlmdeeadldgmaaGreatDoor.VL

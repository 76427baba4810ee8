/- The library's deletion in a row of one's own: []bellwether/api.Service. -/
import Derived.Test.YtnlmdeeadldgmaaGreatDoorZG28
import Derived.Test.YtnlmdeeadldgmaaGreatDoorZG31
import Derived.Test.YtnlmdeeadldgmaaGreatDoorZG17
import Derived.Test.YtnlmdeeadldgmaaGreatDoorZVLWalk
-- STEPWISE
-- WK
-- HWR
set_option linter.unusedVariables false
set_option linter.unusedSimpArgs false
set_option maxRecDepth 10000
namespace Go.Proofs.YtnlmdeeadldgmaaGreatDoor.VL
open Go Go.RowKit Go.Lib

theorem svF_drop (l : List Sv) (i : Nat) : (svF l).drop (i * 6) = svF (l.drop i) := by
  induction l generalizing i with
  | nil => simp [svF, flat]
  | cons m l ih =>
    cases i with
    | zero => simp
    | succ i => rw [svF_cons, Nat.succ_mul, show i * 6 + 6 = 6 + i * 6 by omega, ← List.drop_drop, show (svC m ++ svF l).drop 6 = svF l from rfl, ih, List.drop_succ_cons]
theorem svF_row {l : List Sv} {i : Nat} {x : Sv} (h : l[i]? = some x) : List.take 6 (List.drop (i * 6) (svF l)) = svC x := by
  obtain ⟨hi, he⟩ := List.getElem?_eq_some_iff.1 h
  rw [svF_drop, List.drop_eq_getElem_cons hi, he, svF_cons]
  rfl
theorem svF_set {l : List Sv} {i : Nat} (x : Sv) (hi : i < l.length) : splice (svF l) (i * 6) (svC x) = svF (l.set i x) := by
  have e := List.take_append_drop i l
  have hl : (l.take i).length = i := by rw [List.length_take]; omega
  have e2 : l.drop i = l[i] :: l.drop (i + 1) := List.drop_eq_getElem_cons hi
  have e3 : l.set i x = l.take i ++ x :: l.drop (i + 1) := by rw [List.set_eq_take_append_cons_drop, if_pos hi]
  have e4 : svF l = svF (l.take i) ++ (svC l[i] ++ svF (l.drop (i + 1))) := by rw [← svF_cons, ← e2, ← svF_app, e]
  have hn : (svF (l.take i)).length = i * 6 := by rw [svF_length, hl]
  rw [e3, svF_app, svF_cons, e4, ← hn]
  exact splice_mid _ _ _ _ rfl

set_option maxHeartbeats 2000000 in
theorem ixOSv_spec (f : Sv → Bool) (fid : FuncId) (caps : List AV) (l : List Sv) (hl : l.length ≤ 1048576) (bb g : Nat) (H : List Box) (hb : H[bb]? = some ⟨svF l, 0, g, true⟩) (hf : ∀ x, x ∈ l → ASpec Tryz.prog fid (.agg (svC x) :: caps) H (Gives (vb (f x)) H)) :
    ASpec Tryz.prog 136 [.sl bb g 0 l.length 6 false, .fn fid caps] H (Gives (vi (ixOf f l 0)) H) := by
  have hcl := svF_length l
  refine ASpec.enter Tryz.func136 rfl (fun a w => Tryz.call136 a w) Tryz.ntmps136 Tryz.results136 fun base w β hI => ?_
  refine wk (wA hb wT) (wA DrM.mk wT) ?_
  refine AWP.loop (ι := {i : Nat // i ≤ l.length ∧ ixOf f l 0 = ixOf f (l.drop i) i}) (fun p => ⟨[(0, .sl bb g 0 l.length 6 false), (1, .fn fid caps), (7, vi l.length), (8, vi p.1)], H⟩) (fun p => l.length - p.1) ⟨0, Nat.zero_le _, by rw [List.drop_zero]⟩ ?_ ?_
  · dsimp only
    exact Coe.kp
  · rintro ⟨i, hi, he⟩
    dsimp only
    by_cases hc : (i : Int) < (l.length : Int)
    · have hg : l[i]? = some l[i] := List.getElem?_eq_getElem (by omega)
      have hs := hf l[i] (List.getElem_mem _)
      generalize l[i] = x at hg hs
      have hrow := svF_row hg
      rw [ixOf_drop _ hg] at he
      by_cases hx : f x = true
      · rw [if_pos hx] at he
        rw [hx] at hs
        rw [he]
        obtain ⟨xn, xp, xo, xi, xw, xl⟩ := x
        try dsimp only at hrow hs
        refine wk (wA hc (wA hb (wA hcl (wA hrow wT)))) (wA hs (wA DrM.mk wT)) ?_
        refine wkEnd wT ?_
        exact Fin.same ⟨rfl, rfl⟩
      · rw [if_neg hx] at he
        rw [Bool.not_eq_true _ |>.mp hx] at hs
        obtain ⟨xn, xp, xo, xi, xw, xl⟩ := x
        try dsimp only at hrow hs
        refine wk (wA hc (wA hb (wA hcl (wA hrow wT)))) (wA hs (wA DrM.mk wT)) ?_
        refine ⟨⟨i + 1, by omega, he⟩, ?_, by dsimp only; omega⟩
        dsimp only
        exact Coe.kp
    · rw [List.drop_of_length_le (by omega)] at he
      rw [he]
      refine wk (wA hc wT) (wA DrM.mk wT) ?_
      refine wkEnd wT ?_
      exact Fin.same ⟨rfl, rfl⟩

set_option maxHeartbeats 8000000 in
theorem delOSv_spec (f : Sv → Bool) (fid : FuncId) (caps : List AV) (l : List Sv) (hl : l.length ≤ 1048576) (bb g : Nat) (H : List Box) (hcaps : ∀ (i : Nat) (c : AV), caps[i]? = some c → Lt H.length c) (hb : H[bb]? = some ⟨svF l, 0, g, true⟩)
    (hf : ∀ x, x ∈ l → ∀ H' : List Box, (∀ i bx, i ≠ bb → H[i]? = some bx → H'[i]? = some bx) → ASpec Tryz.prog fid (.agg (svC x) :: caps) H' (Gives (vb (f x)) H')) :
    ASpec Tryz.prog 105 [.sl bb g 0 l.length 6 false, .fn fid caps] H (fun o H' => o = .ret (.sl bb g 0 (l.filter fun x => !f x).length 6 false) ∧ H' = H.set bb ⟨svF (l.filter fun x => !f x) ++ zrs [vs [], vs [], vi 0, vi 0, vi 0, vb false] (l.length - (l.filter fun x => !f x).length), 0, g, true⟩) := by
  have hx := ixOSv_spec f fid caps l hl bb g H hb (fun x hx => hf x hx H fun _ _ _ h => h)
  have hbl : bb < H.length := (List.getElem?_eq_some_iff.1 hb).1
  have hs : ∀ x : Box, (H.set bb x)[bb]? = some x := fun x => List.getElem?_set_self hbl
  have hself : H.set bb ⟨svF l, 0, g, true⟩ = H := by
    apply List.ext_getElem?
    intro k
    by_cases hk : bb = k
    · subst hk; rw [hs, hb]
    · rw [List.getElem?_set_ne hk]
  rcases ixOf_at f l 0 with ⟨h1, h2⟩ | ⟨q, xq, h1, hq, hfq, hbef⟩
  · rw [filter_all h2, Nat.sub_self, show zrs [vs [], vs [], vi 0, vi 0, vi 0, vb false] 0 = [] from rfl, List.append_nil, hself]
    rw [h1] at hx
    refine ASpec.enter Tryz.func105 rfl (fun a w => Tryz.call105 a w) Tryz.ntmps105 Tryz.results105 fun base w β hI => ?_
    refine wk (wA hb wT) (wA hx (wA DrM.mk wT)) ?_
    refine wkEnd wT ?_
    exact ⟨_, _, Shed.refl _ _ _, rfl, rfl⟩
  · rw [h1, Nat.zero_add] at hx
    have hql := (List.getElem?_eq_some_iff.1 hq).1
    refine ASpec.enter Tryz.func105 rfl (fun a w => Tryz.call105 a w) Tryz.ntmps105 Tryz.results105 fun base w β hI => ?_
    refine wk (wA hb wT) (wA hx (wA DrM.mk wT)) ?_
    refine AWP.loop (ι := {p : Nat × List Sv × Nat // p.1 ≤ l.length ∧ p.2.2 < p.1 ∧ p.2.1.length = l.length ∧ p.2.1.drop p.1 = l.drop p.1 ∧ p.2.1.take p.2.2 = (l.take p.1).filter fun x => !f x})
      (fun p => ⟨[(0, .sl bb g 0 l.length 6 false), (1, .fn fid caps), (5, vi p.1.2.2), (6, vi p.1.1)], H.set bb ⟨svF p.1.2.1, 0, g, true⟩⟩) (fun p => l.length - p.1.1)
      ⟨(q + 1, l, q), by dsimp only; omega, by dsimp only; omega, rfl, rfl, by dsimp only; rw [filter_take hq, hfq, filter_all hbef]; simp⟩ ?_ ?_
    · dsimp only
      rw [hself]
      exact Coe.kp
    · rintro ⟨⟨j, X, i⟩, hj1, hij, hXl, hXd, hXt⟩
      dsimp only at hj1 hij hXl hXd hXt ⊢
      by_cases hc : (j : Int) < (l.length : Int)
      · have hg : l[j]? = some l[j] := List.getElem?_eq_getElem (by omega)
        have hmem : l[j] ∈ l := List.getElem_mem _
        generalize l[j] = v at hg hmem
        have hgX : X[j]? = some v := by
          have h := congrArg (fun z => z[0]?) hXd
          simp only [List.getElem?_drop, Nat.add_zero] at h
          rw [h]; exact hg
        have hft := filter_take (f := f) hg
        have hrow := svF_row hgX
        have hxl : (svF X).length = l.length * 6 := by rw [svF_length, hXl]
        have hh : ∀ (x y : Box), ASpec Tryz.prog fid (.agg (svC v) :: caps) (H.set bb x ++ [y]) (Gives (vb (f v)) (H.set bb x ++ [y])) := fun x y => hf v hmem _ fun i bx hi hbx => by
          rw [List.getElem?_append_left (by rw [List.length_set]; exact (List.getElem?_eq_some_iff.1 hbx).1), List.getElem?_set_ne (Ne.symm hi)]; exact hbx
        have hs2 : ∀ (x y : Box), (H.set bb x ++ [y])[bb]? = some x := fun x y => by rw [List.getElem?_append_left (by rw [List.length_set]; exact hbl)]; exact hs x
        have hs3 : ∀ (x y z : Box), (H.set bb x ++ [y]).set bb z = H.set bb z ++ [y] := fun x y z => by rw [List.set_append_left _ _ (by rw [List.length_set]; exact hbl), List.set_set]
        have hst := svF_set (l := X) (i := i) v (by omega)
        have hcutI : ∀ (Y : List Sv), ∀ (k : Nat) (bx : Box), (H.set bb ⟨svF Y, 0, g, true⟩)[k]? = some bx → ∀ (t : Nat) (c : AV), bx.cells[t]? = some c → Lt (H.set bb ⟨svF Y, 0, g, true⟩).length c := fun Y k bx hk t c ht => by
          rw [List.length_set]
          by_cases hkb : k = bb
          · subst hkb
            rw [hs] at hk
            injection hk with hk
            subst hk
            exact lt_svF (List.mem_of_getElem? ht)
          · rw [List.getElem?_set_ne (Ne.symm hkb)] at hk
            exact hI.ltCells hk ht
        have hcutS : ∀ (Y : List Sv) (a b : Int), ∀ p ∈ [((0 : Nat), AV.sl bb g 0 l.length 6 false), (1, .fn fid caps), (5, vi a), (6, vi b)], Lt (H.set bb ⟨svF Y, 0, g, true⟩).length p.2 := fun Y a b => by
          rw [List.length_set]
          simp only [List.mem_cons, List.not_mem_nil, or_false, forall_eq_or_imp, forall_eq]
          exact ⟨.sl _ _ _ _ _ _ hbl, .fn _ _ hcaps, .v _, .v _⟩
        cases hfv : f v with
        | true =>
          rw [hfv] at hh hft
          simp only [if_true, List.append_nil] at hft
          obtain ⟨xn, xp, xo, xi, xw, xl⟩ := v
          try dsimp only at hrow hh
          clear hst
          refine wk (wA hc (wA hs (wA hs2 (wA hs3 (wA hxl (wA hrow wT)))))) (wA hh (wA DrM.mk wT)) ?_
          refine ⟨⟨(j + 1, X, i), by dsimp only; omega, by dsimp only; omega, hXl, ?_, by dsimp only; rw [hft]; exact hXt⟩, ?_, by dsimp only; omega⟩
          · dsimp only
            have h := congrArg (List.drop 1) hXd
            rwa [List.drop_drop, List.drop_drop] at h
          · dsimp only
            exact Coe.cutH (Keeps.kp wT) (by rw [List.length_set]) (hcutS X _ _) (hcutI X)
        | false =>
          rw [hfv] at hh hft
          simp only [Bool.false_eq_true, if_false] at hft
          have hi0 : (0 : Int) ≤ (i : Int) := by omega
          have hil : i < l.length := by omega
          have hX' : (X.set i v).take (i + 1) = (l.take (j + 1)).filter fun x => !f x := by
            rw [hft, ← hXt, List.take_succ_eq_append_getElem (by rw [List.length_set]; omega), List.getElem_set_self, List.take_set_of_le (Nat.le_refl _)]
          have hXd' : (X.set i v).drop (j + 1) = l.drop (j + 1) := by
            rw [List.drop_set_of_lt (by omega)]
            have h := congrArg (List.drop 1) hXd
            rwa [List.drop_drop, List.drop_drop] at h
          obtain ⟨xn, xp, xo, xi, xw, xl⟩ := v
          try dsimp only at hrow hh hst
          refine wk (wA hc (wA hs (wA hs2 (wA hs3 (wA hxl (wA hrow (wA hi0 (wA hil wT)))))))) (wA hh (wA DrM.mk wT)) ?_
          refine ⟨⟨(j + 1, X.set i ⟨xn, xp, xo, xi, xw, xl⟩, i + 1), by dsimp only; omega, by dsimp only; omega, by dsimp only; rw [List.length_set]; exact hXl, hXd', hX'⟩, ?_, by dsimp only; omega⟩
          dsimp only
          rw [show (((((((svF X).set (i * 6) (vs xn)).set (i * 6 + 1) (vs xp)).set (i * 6 + 2) (vi xo)).set (i * 6 + 3) (vi xi)).set (i * 6 + 4) (vi xw)).set (i * 6 + 5) (vb xl)) = svF (X.set i ⟨xn, xp, xo, xi, xw, xl⟩) from hst]
          exact Coe.cutH (Keeps.kp wT) (by rw [List.length_set]) (hcutS _ _ _) (hcutI _)
      · have hjn : j = l.length := by omega
        subst hjn
        rw [List.take_length] at hXt
        have hi' : i = (l.filter fun x => !f x).length := by
          have h := congrArg List.length hXt
          rw [List.length_take] at h
          omega
        rw [← hXt, ← hi'] at *
        have hxl : (svF X).length = l.length * 6 := by rw [svF_length, hXl]
        have hz0 : (0 : Int) ≤ (i : Int) := by omega
        have hz1 : (i : Int) ≤ (l.length : Int) := by omega
        have hss : ∀ x y : Box, (H.set bb x).set bb y = H.set bb y := fun x y => List.set_set ..
        have hfin : splice (svF X) (i * 6) (flat (List.replicate (l.length - i) [vs [], vs [], vi 0, vi 0, vi 0, vb false])) = svF (X.take i) ++ zrs [vs [], vs [], vi 0, vi 0, vi 0, vb false] (l.length - i) := by
          have hzl := zrs_length [vs [], vs [], vi 0, vi 0, vi 0, vb false] (l.length - i)
          simp only [List.length_cons, List.length_nil, Nat.reduceAdd] at hzl
          rw [← zrs, splice_end _ _ _ (by rw [hzl, hxl]; omega)]
          congr 1
          have h := svF_app (X.take i) (X.drop i)
          rw [List.take_append_drop] at h
          rw [h, List.take_append_of_le_length (by rw [svF_length, List.length_take]; omega), List.take_of_length_le (by rw [svF_length, List.length_take]; omega)]
        generalize svF (X.take i) ++ zrs [vs [], vs [], vi 0, vi 0, vi 0, vb false] (l.length - i) = Z at *
        have hni : 0 < l.length - i := by omega
        repeat' (first
          | (refine AWP.seq ?_)
          | (refine AWP.block ?_)
          | (refine AWP.region_k fun Q' hQ' => ?_)
          | (refine AWP.draw_k rfl (by kernel_rfl) fun Q' hQ' => ?_)
          | (with_reducible refine aops.step fun T hT => ?_; simp (disch := omega) only [go_sem, Nat.reduceBEq, Nat.reduceLT, Nat.reduceEqDiff, reduceIte, Nat.reduceAdd, Nat.reduceMul, Nat.reduceSub, Nat.reduceLeDiff, Int.reduceToNat, Int.reducePow, Int.reduceLT, Int.reduceEq, Int.reduceBEq, Int.reduceNeg, Nat.reducePow, List.reduceReplicate, Int.reduceLE, hc, hs, hss, hxl, hz0, hz1, hfin, hni, Nat.sub_zero, Bool.false_and])
          | (with_reducible refine qops.step fun T hT => ?_; simp (disch := omega) only [go_sem, Nat.reduceBEq, Nat.reduceLT, Nat.reduceEqDiff, reduceIte, Nat.reduceAdd, Nat.reduceMul, Nat.reduceSub, Nat.reduceLeDiff, Int.reduceToNat, Int.reducePow, Int.reduceLT, Int.reduceEq, Int.reduceBEq, Int.reduceNeg, Nat.reducePow, List.reduceReplicate, Int.reduceLE, hc, hs, hss, hxl, hz0, hz1, hfin, hni, Nat.sub_zero, Bool.false_and])
          | (with_reducible refine aops.nil ?_)
          | (with_reducible refine qops.nil ?_)
          | (with_reducible refine hT _ ?_; clear hT T)
          | (refine AWP.skip ?_; try simp only [AExit.then, AExit.inBlock, reduceIte, Nat.reduceEqDiff])
          | (refine AWP.exit ?_; try simp only [AExit.then, AExit.inBlock, reduceIte, Nat.reduceEqDiff])
          | (refine AWP.ret ?_; try simp only [AExit.then, AExit.inBlock, reduceIte, Nat.reduceEqDiff])
          | (refine AWP.cond rfl (fun h => ?_) (fun h => ?_) <;> (try simp only [decide_eq_true_eq, decide_eq_false_iff_not, Bool.true_eq_false, Bool.false_eq_true] at h) <;> (try contradiction))
          | (refine hQ' _ _ ?_; clear hQ' Q'; try simp only [AExit.then, AExit.inBlock, reduceIte, Nat.reduceEqDiff])
          | (refine hQ' _ ?_; clear hQ' Q'; try simp only [AExit.then, AExit.inBlock, reduceIte, Nat.reduceEqDiff])
          | (with_reducible refine Branch.split (fun h => ?_) (fun h => ?_) <;> (try simp only [decide_eq_true_eq, decide_eq_false_iff_not, Bool.not_true, Bool.not_false, Bool.true_eq_false, Bool.false_eq_true] at h) <;> (try contradiction) <;> (simp (disch := omega) only [go_sem, Nat.reduceBEq, Nat.reduceLT, Nat.reduceEqDiff, reduceIte, Nat.reduceAdd, Nat.reduceMul, Nat.reduceSub, Nat.reduceLeDiff, Int.reduceToNat, Int.reducePow, Int.reduceLT, Int.reduceEq, Int.reduceBEq, Int.reduceNeg, Nat.reducePow, List.reduceReplicate, Int.reduceLE, h, hc, hs, hss, hxl, hz0, hz1, hfin, hni, Nat.sub_zero, Bool.false_and]))
          | (with_reducible intro h; try simp only [h, go_sem, Nat.reduceBEq, Nat.reduceLT, Nat.reduceEqDiff, reduceIte, Nat.reduceAdd, Nat.reduceMul, Nat.reduceSub, Nat.reduceLeDiff, Int.reduceToNat, Int.reducePow, Int.reduceLT, Int.reduceEq, Int.reduceBEq, Int.reduceNeg, Nat.reducePow, List.reduceReplicate, Int.reduceLE, hc, hs, hss, hxl, hz0, hz1, hfin, hni, Nat.sub_zero, Bool.false_and]))
        refine wkEnd wT ?_
        exact ⟨_, _, Shed.refl _ _ _, rfl, rfl⟩

end Go.Proofs.YtnlmdeeadldgmaaGreatDoor.VL

/- The library's search in a row: []bellwether/api.Named. -/
-- STEPWISE
-- WK
set_option linter.unusedVariables false
set_option linter.unusedSimpArgs false
set_option maxRecDepth 10000
namespace Go.Proofs.YtnlmdeeadldgmaaGreatDoor.VL
open Go Go.RowKit Go.Lib

set_option maxHeartbeats 1000000 in
theorem ixFNd_spec (f : Nd → Bool) (fid : FuncId) (caps : List AV) (l : List Nd) (hl : l.length ≤ 9223372036854775807) (H : List Box) (hf : ∀ x, x ∈ l → ASpec Tryz.prog fid (.agg (ndC x) :: caps) H (Gives (vb (f x)) H)) :
    ASpec Tryz.prog 104 [.lst 4 (ndG l), .fn fid caps] H (Gives (vi (ixOf f l 0)) H) := by
  refine ASpec.enter Tryz.func104 rfl (fun a w => Tryz.call104 a w) Tryz.ntmps104 Tryz.results104 fun base w β hI => ?_
  refine wk wT (wA DrM.mk wT) ?_
  refine AWP.loop (ι := {i : Nat // i ≤ l.length ∧ ixOf f l 0 = ixOf f (l.drop i) i}) (fun p => ⟨[(0, .lst 4 (ndG l)), (1, .fn fid caps), (7, vi l.length), (8, vi p.1)], H⟩) (fun p => l.length - p.1) ⟨0, Nat.zero_le _, by rw [List.drop_zero]⟩ ?_ ?_
  · dsimp only
    exact Coe.kp
  · rintro ⟨i, hi, he⟩
    dsimp only
    by_cases hc : (i : Int) < (l.length : Int)
    · have hg : l[i]? = some l[i] := List.getElem?_eq_getElem (by omega)
      have hs := hf l[i] (List.getElem_mem _)
      generalize l[i] = x at hg hs
      rw [ixOf_drop _ hg] at he
      by_cases hx : f x = true
      · rw [if_pos hx] at he
        rw [hx] at hs
        rw [he]
        obtain ⟨xn, ⟨xg, xb, xa⟩⟩ := x
        refine wk (wA hc (wA hg wT)) (wA hs (wA DrM.mk wT)) ?_
        refine wkEnd wT ?_
        exact Fin.same ⟨rfl, rfl⟩
      · rw [if_neg hx] at he
        rw [Bool.not_eq_true _ |>.mp hx] at hs
        obtain ⟨xn, ⟨xg, xb, xa⟩⟩ := x
        refine wk (wA hc (wA hg wT)) (wA hs (wA DrM.mk wT)) ?_
        refine ⟨⟨i + 1, by omega, he⟩, ?_, by dsimp only; omega⟩
        dsimp only
        exact Coe.kp
    · rw [List.drop_of_length_le (by omega)] at he
      rw [he]
      refine wk (wA hc wT) (wA DrM.mk wT) ?_
      refine wkEnd wT ?_
      exact Fin.same ⟨rfl, rfl⟩
theorem coFNd_spec (f : Nd → Bool) (fid : FuncId) (caps : List AV) (l : List Nd) (hl : l.length ≤ 9223372036854775807) (H : List Box) (hf : ∀ x, x ∈ l → ASpec Tryz.prog fid (.agg (ndC x) :: caps) H (Gives (vb (f x)) H)) :
    ASpec Tryz.prog 60 [.lst 4 (ndG l), .fn fid caps] H (Gives (vb (l.any f)) H) := by
  have hs := ixFNd_spec f fid caps l hl H hf
  have ha := ixOf_any f l 0
  clear hf
  generalize ixOf f l 0 = x at hs ha
  rw [← ha]
  refine ASpec.enter Tryz.func60 rfl (fun a w => Tryz.call60 a w) Tryz.ntmps60 Tryz.results60 fun base w β hI => ?_
  refine wk wT (wA hs (wA DrM.mk wT)) ?_
  refine wkEnd wT ?_
  exact Fin.same ⟨rfl, rfl⟩

end Go.Proofs.YtnlmdeeadldgmaaGreatDoor.VL

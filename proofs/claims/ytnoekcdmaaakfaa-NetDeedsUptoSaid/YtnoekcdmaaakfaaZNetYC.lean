/- Layer 25: the document's function that sends mails. -/
import Derived.Test.YtnoekcdmaaakfaaZNetY
import Derived.Test.YtnoekcdmaaakfaaZNetV
-- STEPWISE
-- WK
-- HWR
-- HOLE 14 0 [(.same, []), (.same, []), (.same, []), (.same, []), (.same, []), (.same, []), (.same, []), (.same, []), (.wr 5, []), (.same, []), (.wr 7, [])]
set_option linter.unusedVariables false
set_option linter.unusedSimpArgs false
set_option maxRecDepth 10000
namespace Go.Proofs.Ytnoekcdmaaakfaa.VL
open Go Go.RowKit Go.Lib

theorem holM_NetYC_14 : HolM 14 0 [(.same, []), (.same, []), (.same, []), (.same, []), (.same, []), (.same, []), (.same, []), (.same, []), (.wr 5, []), (.same, []), (.wr 7, [])] := ⟨⟩

abbrev sentN (H : List Box) (n : Nt) (S : List Ml) (g : Nat) : List Box := [⟨ntC n, 0, 0, false⟩, ⟨[.emp, .emp], 0, 0, false⟩, ⟨ntC n, 0, 0, false⟩, ⟨[.sl (H.length + 5) n.fl.length 0 n.fl.length 3 false, .sl (H.length + 6) 0 0 n.cu.length 2 false], 0, 0, false⟩, ⟨[.sl (H.length + 5) n.fl.length 0 n.fl.length 3 false, .sl (H.length + 6) 0 0 n.cu.length 2 false], 0, 0, false⟩, ⟨mlF S, 0, g, true⟩, ⟨ctF n.cu, 0, 0, true⟩, ⟨[.sl (H.length + 5) g 0 S.length 3 false, .sl (H.length + 6) 0 0 n.cu.length 2 false], 0, 0, false⟩]

set_option maxHeartbeats 16000000 in
theorem refSend_spec (n : Nt) (hn : NtL n) (l : List Ml) (hl : l.length ≤ 9223372036854775807) (H : List Box) :
    ASpec Try.prog 13 [ntV n, .lst 3 (mlG l)] H (Gives (.tup [ntV (sendN n l).1, vi (sendN n l).2.1, vi (sendN n l).2.2]) H) := by
  have hcu := hn.cu
  have hfl := hn.fl
  have hr := fun H => refRight_spec n (by omega) (by omega) H
  have hcp := fun H => copy_spec n (by omega) (by omega) hn.d H
  have hs : sendN n l = if ntOk n && l.all mlOk then (⟨n.fl ++ l.take (60 - n.fl.length), n.cu⟩, ((l.length - (60 - n.fl.length) : Nat) : Int), 0) else (n, 0, 1) := rfl
  have h60 : ntOk n = true → n.fl.length ≤ 60 := fun hok => by unfold ntOk at hok; simp only [Bool.and_eq_true, decide_eq_true_eq] at hok; exact hok.1
  generalize sendN n l = res at *
  generalize hok : ntOk n = ok at *
  obtain ⟨fl, cu⟩ := n
  dsimp only at *
  have k5 : H.length + 2 + 3 = H.length + 5 := rfl
  have k6 : H.length + 2 + 4 = H.length + 6 := rfl
  refine ASpec.enter Try.func13 rfl (fun a w => Try.call13 a w) Try.ntmps13 Try.results13 fun base w β hI => ?_
  refine wk wT (wA hr (wA holM_NetYC_14 (wA DrM.mk wT))) ?_
  refine AWP.loop (ι := {i : Nat // i ≤ l.length})
    (fun p => ⟨[(1, .lst 3 (mlG l)), (2, .ptr H.length 0 0), (4, .ptr (H.length + 1) 0 0), (7, vb (ok && (l.take p.1).all mlOk)), (8, vi p.1)], H ++ [⟨ntC ⟨fl, cu⟩, 0, 0, false⟩, ⟨[.emp, .emp], 0, 0, false⟩]⟩) (fun p => l.length - p.1) ⟨0, Nat.zero_le _⟩ ?_ ?_
  · dsimp only
    rw [List.take_zero, List.all_nil, Bool.and_true]
    exact Coe.kp
  · rintro ⟨i, hi⟩
    dsimp only
    by_cases hc : (i : Int) < (l.length : Int)
    · have hg : l[i]? = some l[i] := List.getElem?_eq_getElem (by omega)
      have htk : (l.take (i + 1)).all mlOk = ((l.take i).all mlOk && mlOk l[i]) := by rw [List.take_succ_eq_append_getElem (by omega), List.all_append]; simp
      generalize l[i] = m at *
      generalize hx : (l.take i).all mlOk = x at *
      have hm := fun H => refMail_spec m H
      generalize mlOk m = y at *
      obtain ⟨f, t, d⟩ := m
      cases hox : ok && x
      · have hz : (ok && (l.take (i + 1)).all mlOk) = false := by rw [htk, ← Bool.and_assoc, hox, Bool.false_and]
        refine wk (wA hc (wA hg wT)) (wA hm (wA holM_NetYC_14 (wA DrM.mk wT))) ?_
        refine ⟨⟨i + 1, by omega⟩, ?_, by dsimp only; omega⟩
        dsimp only
        rw [hz]
        exact Coe.kp
      · have hz : (ok && (l.take (i + 1)).all mlOk) = y := by rw [htk, ← Bool.and_assoc, hox, Bool.true_and]
        refine wk (wA hc (wA hg wT)) (wA hm (wA holM_NetYC_14 (wA DrM.mk wT))) ?_
        refine ⟨⟨i + 1, by omega⟩, ?_, by dsimp only; omega⟩
        dsimp only
        rw [hz]
        exact Coe.kp
    · have hil : i = l.length := by omega
      subst hil
      rw [List.take_length]
      cases hgood : ok && l.all mlOk
      · rw [hgood, if_neg (by simp)] at hs
        subst hs
        dsimp only
        refine wk (wA hc wT) (wA holM_NetYC_14 (wA DrM.mk wT)) ?_
        refine wkEnd wT ?_
        exact Fin.cut (.cons_tup (lt_nt ⟨fl, cu⟩) (.cons_tup (.v _) (.cons_tup (.v _) .nil_tup))) ⟨rfl, rfl⟩
      · rw [hgood, if_pos rfl] at hs
        subst hs
        have hall : l.all mlOk = true := by cases ok <;> simp_all
        have h60' : fl.length ≤ 60 := h60 (by cases ok <;> simp_all)
        have hdl : ∀ m ∈ l, m.d.length ≤ 70368744177664 := fun m hm => by
          have := List.all_eq_true.1 hall m hm
          unfold mlOk at this
          simp only [Bool.and_eq_true, decide_eq_true_eq] at this
          omega
        dsimp only
        refine wk (wA hc (wA k5 (wA k6 wT))) (wA hcp (wA holM_NetYC_14 (wA DrM.mk wT))) ?_
        refine AWP.loop (ι := {s : Nat × Nat // s.1 ≤ l.length})
          (fun p => ⟨[(1, .lst 3 (mlG l)), (4, .ptr (H.length + 1) 0 0), (9, .ptr (H.length + 7) 0 0), (10, vi ((p.1.1 - (60 - fl.length) : Nat) : Int)), (11, vi p.1.1)], H ++ sentN H ⟨fl, cu⟩ (fl ++ l.take (min p.1.1 (60 - fl.length))) p.1.2⟩) (fun p => l.length - p.1.1) ⟨(0, fl.length), Nat.zero_le _⟩ ?_ ?_
        · dsimp only
          rw [Nat.zero_min, List.take_zero, List.append_nil, Nat.zero_sub]
          exact Coe.kp
        · rintro ⟨⟨j, g⟩, hj⟩
          dsimp only at hj ⊢
          have hL : (fl ++ l.take (min j (60 - fl.length))).length = fl.length + min j (60 - fl.length) := by rw [List.length_append, List.length_take]; omega
          by_cases hc' : (j : Int) < (l.length : Int)
          · by_cases hroom : j < 60 - fl.length
            · have hg : l[j]? = some l[j] := List.getElem?_eq_getElem (by omega)
              have hm := hdl l[j] (List.getElem_mem _)
              have hS : fl ++ l.take (min (j + 1) (60 - fl.length)) = (fl ++ l.take (min j (60 - fl.length))) ++ [l[j]] := by
                rw [Nat.min_eq_left (by omega), Nat.min_eq_left (by omega), List.take_succ_eq_append_getElem (by omega), List.append_assoc]
              have hz1 : j + 1 - (60 - fl.length) = 0 := by omega
              have hz0 : j - (60 - fl.length) = 0 := by omega
              generalize l[j] = m at *
              have hsn := mlF_snoc (fl ++ l.take (min j (60 - fl.length))) m
              rw [← hS] at hsn
              have hL' : (fl ++ l.take (min (j + 1) (60 - fl.length))).length = (fl ++ l.take (min j (60 - fl.length))).length + 1 := by rw [hS, List.length_append (bs := [m]), List.length_singleton]
              have hml := mlF_length (fl ++ l.take (min j (60 - fl.length)))
              have hlt : ((fl ++ l.take (min j (60 - fl.length))).length : Int) < 60 := by omega
              have ho := fun H => refOwn_spec m hm H
              clear hS hL
              generalize fl ++ l.take (min j (60 - fl.length)) = S at *
              generalize hS' : fl ++ l.take (min (j + 1) (60 - fl.length)) = S' at *
              obtain ⟨f, t, d⟩ := m
              dsimp only at hsn
              rw [hz0]
              refine wk (wA hc' (wA hg (wA hml (wA hlt (wA (Eq.symm hsn) wT))))) (wA ho (wA holM_NetYC_14 (wA DrM.mk wT))) ?_
              refine ⟨⟨(j + 1, g + 1), by dsimp only; omega⟩, ?_, by dsimp only; omega⟩
              dsimp only [sentN]
              rw [hz1, hS', hL']
              exact Coe.kp
            · have hS : min (j + 1) (60 - fl.length) = min j (60 - fl.length) := by omega
              have hz : j + 1 - (60 - fl.length) = (j - (60 - fl.length)) + 1 := by omega
              have hlt : ¬ ((fl ++ l.take (min j (60 - fl.length))).length : Int) < 60 := by omega
              have hb : j - (60 - fl.length) ≤ 9223372036854775806 := by omega
              have hzz : ((j + 1 - (60 - fl.length) : Nat) : Int) = ((j - (60 - fl.length) : Nat) : Int) + 1 := by omega
              generalize hq : j - (60 - fl.length) = q at *
              generalize hq' : j + 1 - (60 - fl.length) = q' at *
              refine wk (wA hc' (wA hlt wT)) (wA holM_NetYC_14 (wA DrM.mk wT)) ?_
              refine ⟨⟨(j + 1, g), by dsimp only; omega⟩, ?_, by dsimp only; omega⟩
              dsimp only
              rw [hS, hq', hzz]
              exact Coe.kp
          · have hjl : j = l.length := by omega
            subst hjl
            have hS : l.take (min l.length (60 - fl.length)) = l.take (60 - fl.length) := by
              rcases Nat.le_total l.length (60 - fl.length) with h | h
              · rw [Nat.min_eq_left h, List.take_of_length_le (Nat.le_refl _), List.take_of_length_le h]
              · rw [Nat.min_eq_right h]
            rw [hS]
            generalize fl ++ l.take (60 - fl.length) = S at *
            generalize l.length - (60 - fl.length) = q at *
            refine wk (wA hc' wT) (wA holM_NetYC_14 (wA DrM.mk wT)) ?_
            refine wkEnd wT ?_
            exact Fin.netG (n := ⟨S, cu⟩) (app_at _ _ 5 rfl) (app_at _ _ 6 rfl) (by dsimp only; omega) (by dsimp only; omega) (by omega) rfl rfl (by dsimp only; rw [mlF_length]; omega) (by dsimp only; rw [ctF_length]; omega) (chunk_mlF _) (chunk_ctF _) (.cons_tup (.v _) (.cons_tup (.v _) .nil_tup)) ⟨rfl, rfl⟩

end Go.Proofs.Ytnoekcdmaaakfaa.VL

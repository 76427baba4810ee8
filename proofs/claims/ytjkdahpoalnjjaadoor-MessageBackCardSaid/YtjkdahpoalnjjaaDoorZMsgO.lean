/- Layer 20: a talk's payload, as the reference lays it. -/
import Derived.Test.YtjkdahpoalnjjaaDoorZMd
-- STEPWISE
-- WK
set_option linter.unusedVariables false
set_option linter.unusedSimpArgs false
set_option maxRecDepth 10000
namespace Go.Proofs.YtjkdahpoalnjjaaDoor.VL
open Go Go.RowKit Go.Lib

set_option maxHeartbeats 2000000 in
theorem refNums_spec (bs : List UInt8) (l : List Int) (hb : bs.length ≤ 100000) (hl : l.length ≤ 1000) (H : List Box) : ASpec Tryd.prog 47 [vB bs, vI l] H (Gives (vB (bs ++ numsB l)) H) := by
  have hB : vB bs = vB (bs ++ numsB (l.take 0)) := by rw [List.take_zero]; unfold numsB; rw [List.flatMap_nil, List.append_nil]
  rw [hB]
  refine ASpec.enter Tryd.func47 rfl (fun a w => Tryd.call47 a w) Tryd.ntmps47 Tryd.results47 fun base w β hI => ?_
  refine wk wT (wA DrM.mk wT) ?_
  refine AWP.loop (ι := {i : Nat // i ≤ l.length}) (fun p => ⟨[(0, vB (bs ++ numsB (l.take p.1))), (1, vI l), (5, vi p.1)], H⟩) (fun p => l.length - p.1) ⟨0, Nat.zero_le _⟩ ?_ ?_
  · dsimp only
    exact Coe.kp
  · rintro ⟨i, hi⟩
    dsimp only
    by_cases hc : (i : Int) < (l.length : Int)
    · have hg : l[i]? = some l[i] := List.getElem?_eq_getElem (by omega)
      generalize l[i] = n at *
      have hn := numsB_take hg
      have hle : (bs ++ numsB (l.take i)).length ≤ 200000 := by
        have := numsB_length (l.take i)
        have h2 : (l.take i).length ≤ l.length := by rw [List.length_take]; omega
        rw [List.length_append]
        omega
      have h1 := fun H => (refNum_spec (bs ++ numsB (l.take i)) (by omega) n H).froz
      rw [List.append_assoc, ← hn] at h1
      generalize bs ++ numsB (l.take i) = C at *
      generalize hG : bs ++ numsB (l.take (i + 1)) = C' at *
      refine wk (wA hc (wA hg wT)) (wA h1 (wA DrM.mk wT)) ?_
      refine ⟨⟨i + 1, by omega⟩, ?_, by dsimp only; omega⟩
      dsimp only
      rw [hG]
      exact Coe.kp
    · obtain rfl : i = l.length := by omega
      rw [List.take_length]
      refine wk (wA hc wT) (wA DrM.mk wT) ?_
      refine wkEnd wT ?_
      exact Fin.same ⟨rfl, rfl⟩
theorem rnums1_spec (bs : List UInt8) (hl : bs.length ≤ 100000) (a : Int) (H : List Box) : ASpec Tryd.prog 47 [vB bs, .lst 1 [[vi a]]] H (Gives (vB (bs ++ numB a)) H) := by
  have h := refNums_spec bs [a] hl (by simp) H
  have e : numsB [a] = numB a := by simp [numsB]
  rw [e] at h
  exact h
theorem rnums2_spec (bs : List UInt8) (hl : bs.length ≤ 100000) (a b : Int) (H : List Box) : ASpec Tryd.prog 47 [vB bs, .lst 1 [[vi a], [vi b]]] H (Gives (vB (bs ++ numsB [a, b])) H) := refNums_spec bs [a, b] hl (by simp) H
theorem rnums3_spec (bs : List UInt8) (hl : bs.length ≤ 100000) (a b c : Int) (H : List Box) : ASpec Tryd.prog 47 [vB bs, .lst 1 [[vi a], [vi b], [vi c]]] H (Gives (vB (bs ++ numsB [a, b, c])) H) := refNums_spec bs [a, b, c] hl (by simp) H
theorem rnums5_spec (bs : List UInt8) (hl : bs.length ≤ 100000) (a b c d e : Int) (H : List Box) : ASpec Tryd.prog 47 [vB bs, .lst 1 [[vi a], [vi b], [vi c], [vi d], [vi e]]] H (Gives (vB (bs ++ numsB [a, b, c, d, e])) H) := refNums_spec bs [a, b, c, d, e] hl (by simp) H

set_option maxHeartbeats 8000000 in
theorem refTkEncode1_spec (d : List Dg) (l : List Dl) (hok : tkOk ⟨1, d, l⟩ = true) (H : List Box) : ASpec Tryd.prog 22 [.agg (tkC ⟨1, d, l⟩)] H (Gives (.tup [vB (tB ⟨1, d, l⟩), vi 0]) H) := by
  have h0 := fun H => refTkRight_spec ⟨1, d, l⟩ (tkOk_in hok) H
  rw [hok] at h0
  have hkn : ∀ H, ASpec Tryd.prog 27 [vi 1] H (Gives (vb true) H) := fun H => knows_spec 1 H
  have hte : ∀ H, ASpec Tryd.prog 30 [vi 1] H (Gives (vb false) H) := fun H => tells_spec 1 H
  obtain ⟨_, _, _, hdo, hlo⟩ := tkOk_parts hok
  dsimp only at hdo hlo h0
  have hds := dgs_le hdo
  have hls := dls_le hlo
  have hmay := dlGo_may hlo
  have hd8 := dgOk_len hdo
  have hl8 := dlOk_len hlo
  have hn1 := numB_length_le d.length
  have hn2 := numB_length_le l.length
  have hT : tB ⟨1, d, l⟩ = (numB d.length ++ d.flatMap dgB) ++ ([]) := rfl
  rw [List.append_nil] at hT
  rw [hT]
  clear hT hok hdo hlo
  refine ASpec.enter Tryd.func22 rfl (fun a w => Tryd.call22 a w) Tryd.ntmps22 Tryd.results22 fun base w β hI => ?_
  have hf := fun H => rnums1_spec [] (by simp) d.length H
  rw [List.nil_append] at hf
  refine wkE wT (wA h0 (wA hkn (wA hf (wA DrM.mk wT)))) ?_
  refine AWP.loop (ι := {i : Nat // i ≤ d.length}) (fun p => ⟨[(1, .ptr H.length 0 0), (4, vB (numB d.length ++ (d.take p.1).flatMap dgB)), (5, vi p.1)], H ++ [⟨tkC ⟨1, d, l⟩, 0, 0, false⟩]⟩) (fun p => d.length - p.1) ⟨0, Nat.zero_le _⟩ ?_ ?_
  · dsimp only
    rw [List.take_zero, List.flatMap_nil, List.append_nil]
    exact Coe.kp
  · rintro ⟨i, hi⟩
    dsimp only
    by_cases hc : (i : Int) < (d.length : Int)
    · have hg : d[i]? = some d[i] := List.getElem?_eq_getElem (by omega)
      have hC := fm_take dgB hg
      have hle := Nat.le_trans (fm_pre dgB d i) hds
      generalize d[i] = x at *
      obtain ⟨n, g, v⟩ := x
      have hC' : numB d.length ++ (d.take (i + 1)).flatMap dgB = (numB d.length ++ (d.take i).flatMap dgB) ++ numsB [n, g, v] := by rw [hC, List.append_assoc]; rfl
      have hle' : (numB d.length ++ (d.take i).flatMap dgB).length ≤ 1000 := by rw [List.length_append]; omega
      generalize numB d.length ++ (d.take i).flatMap dgB = C at *
      have h3 := fun H => rnums3_spec C (by omega) n g v H
      rw [← hC'] at h3
      generalize hG : numB d.length ++ (d.take (i + 1)).flatMap dgB = C' at *
      refine wk (wA hc (wA hg wT)) (wA h3 (wA DrM.mk wT)) ?_
      refine ⟨⟨i + 1, by omega⟩, ?_, by dsimp only; omega⟩
      dsimp only
      rw [hG]
      exact Coe.kp
    · obtain rfl : i = d.length := by omega
      rw [List.take_length]
      refine wk (wA hc wT) (wA hte (wA DrM.mk wT)) ?_
      refine wkEnd wT ?_
      exact Fin.cut (.cons_tup (lt_bytes _) (.cons_tup (.v _) .nil_tup)) ⟨rfl, rfl⟩
set_option maxHeartbeats 8000000 in
theorem refTkEncode2_spec (d : List Dg) (l : List Dl) (hok : tkOk ⟨2, d, l⟩ = true) (H : List Box) : ASpec Tryd.prog 22 [.agg (tkC ⟨2, d, l⟩)] H (Gives (.tup [vB (tB ⟨2, d, l⟩), vi 0]) H) := by
  have h0 := fun H => refTkRight_spec ⟨2, d, l⟩ (tkOk_in hok) H
  rw [hok] at h0
  have hkn : ∀ H, ASpec Tryd.prog 27 [vi 2] H (Gives (vb true) H) := fun H => knows_spec 2 H
  have hte : ∀ H, ASpec Tryd.prog 30 [vi 2] H (Gives (vb true) H) := fun H => tells_spec 2 H
  obtain ⟨_, _, _, hdo, hlo⟩ := tkOk_parts hok
  dsimp only at hdo hlo h0
  have hds := dgs_le hdo
  have hls := dls_le hlo
  have hmay := dlGo_may hlo
  have hd8 := dgOk_len hdo
  have hl8 := dlOk_len hlo
  have hn1 := numB_length_le d.length
  have hn2 := numB_length_le l.length
  have hT : tB ⟨2, d, l⟩ = (numB d.length ++ d.flatMap dgB) ++ (numB l.length ++ l.flatMap dlB) := rfl
  rw [hT]
  clear hT hok hdo hlo
  refine ASpec.enter Tryd.func22 rfl (fun a w => Tryd.call22 a w) Tryd.ntmps22 Tryd.results22 fun base w β hI => ?_
  have hf := fun H => rnums1_spec [] (by simp) d.length H
  rw [List.nil_append] at hf
  refine wkE wT (wA h0 (wA hkn (wA hf (wA DrM.mk wT)))) ?_
  refine AWP.loop (ι := {i : Nat // i ≤ d.length}) (fun p => ⟨[(1, .ptr H.length 0 0), (4, vB (numB d.length ++ (d.take p.1).flatMap dgB)), (5, vi p.1)], H ++ [⟨tkC ⟨2, d, l⟩, 0, 0, false⟩]⟩) (fun p => d.length - p.1) ⟨0, Nat.zero_le _⟩ ?_ ?_
  · dsimp only
    rw [List.take_zero, List.flatMap_nil, List.append_nil]
    exact Coe.kp
  · rintro ⟨i, hi⟩
    dsimp only
    by_cases hc : (i : Int) < (d.length : Int)
    · have hg : d[i]? = some d[i] := List.getElem?_eq_getElem (by omega)
      have hC := fm_take dgB hg
      have hle := Nat.le_trans (fm_pre dgB d i) hds
      generalize d[i] = x at *
      obtain ⟨n, g, v⟩ := x
      have hC' : numB d.length ++ (d.take (i + 1)).flatMap dgB = (numB d.length ++ (d.take i).flatMap dgB) ++ numsB [n, g, v] := by rw [hC, List.append_assoc]; rfl
      have hle' : (numB d.length ++ (d.take i).flatMap dgB).length ≤ 1000 := by rw [List.length_append]; omega
      generalize numB d.length ++ (d.take i).flatMap dgB = C at *
      have h3 := fun H => rnums3_spec C (by omega) n g v H
      rw [← hC'] at h3
      generalize hG : numB d.length ++ (d.take (i + 1)).flatMap dgB = C' at *
      refine wk (wA hc (wA hg wT)) (wA h3 (wA DrM.mk wT)) ?_
      refine ⟨⟨i + 1, by omega⟩, ?_, by dsimp only; omega⟩
      dsimp only
      rw [hG]
      exact Coe.kp
    · obtain rfl : i = d.length := by omega
      rw [List.take_length]
      have hQ : (numB d.length ++ d.flatMap dgB).length ≤ 300 := by rw [List.length_append]; omega
      generalize numB d.length ++ d.flatMap dgB = Q at *
      have hg2 := fun H => rnums1_spec Q (by omega) l.length H
      refine wk (wA hc wT) (wA hte (wA hg2 (wA DrM.mk wT))) ?_
      clear hg2 hc hf h0
      refine AWP.loop (ι := {i : Nat // i ≤ l.length}) (fun p => ⟨[(1, .ptr H.length 0 0), (4, vB ((Q ++ numB l.length) ++ (l.take p.1).flatMap dlB)), (6, vi p.1)], H ++ [⟨tkC ⟨2, d, l⟩, 0, 0, false⟩]⟩) (fun p => l.length - p.1) ⟨0, Nat.zero_le _⟩ ?_ ?_
      · dsimp only
        rw [List.take_zero, List.flatMap_nil, List.append_nil]
        exact Coe.kp
      · rintro ⟨i, hi⟩
        dsimp only
        by_cases hc : (i : Int) < (l.length : Int)
        · have hg : l[i]? = some l[i] := List.getElem?_eq_getElem (by omega)
          have hC := fm_take dlB hg
          have hle := Nat.le_trans (fm_pre dlB l i) hls
          have hmx := hmay l[i] (List.getElem_mem _)
          generalize l[i] = x at *
          have hal := dlA_le hmx
          have htb := mayD_tab hmx
          have h45 := num5_le x.n x.f x.s.g x.s.b x.s.a.length
          clear hmx
          obtain ⟨n, f, g, b, a⟩ := x
          dsimp only at hal htb h45
          have hC' : (Q ++ numB l.length) ++ (l.take (i + 1)).flatMap dlB = (((Q ++ numB l.length) ++ (l.take i).flatMap dlB) ++ numsB [n, f, g, b, a.length]) ++ a.flatMap enB := by rw [hC, List.append_assoc _ (numsB _) _, List.append_assoc _ (List.flatMap dlB _) _]; rfl
          have hle' : ((Q ++ numB l.length) ++ (l.take i).flatMap dlB).length ≤ 30000 := by simp only [List.length_append]; omega
          generalize (Q ++ numB l.length) ++ (l.take i).flatMap dlB = C at *
          have h5 := fun H => rnums5_spec C (by omega) n f g b a.length H
          have hle2 : (C ++ numsB [n, f, g, b, (a.length : Int)]).length ≤ 30045 := by rw [List.length_append]; omega
          generalize C ++ numsB [n, f, g, b, (a.length : Int)] = D at *
          have hal2 := tabOk_len htb
          refine wk (wA hc (wA hg wT)) (wA h5 (wA DrM.mk wT)) ?_
          clear h5
          refine AWP.loop (ι := {k : Nat // k ≤ a.length}) (fun p => ⟨[(1, .ptr H.length 0 0), (4, vB (D ++ (a.take p.1).flatMap enB)), (6, vi i), (7, .ptr (H.length + 1) 0 0), (8, vi p.1)], H ++ [⟨tkC ⟨2, d, l⟩, 0, 0, false⟩, ⟨dlC ⟨n, f, g, b, a⟩, 0, 0, false⟩]⟩) (fun p => a.length - p.1) ⟨0, Nat.zero_le _⟩ ?_ ?_
          · dsimp only
            rw [List.take_zero, List.flatMap_nil, List.append_nil]
            exact Coe.kp
          · rintro ⟨k, hk⟩
            dsimp only
            by_cases hck : (k : Int) < (a.length : Int)
            · have hgk : a[k]? = some a[k] := List.getElem?_eq_getElem (by omega)
              have hE := fm_take enB hgk
              have hlk := Nat.le_trans (fm_pre enB a k) hal
              have hmy := mayE_iff.1 (tabOk_may htb a[k] (List.getElem_mem _))
              generalize a[k] = y at *
              obtain ⟨yk, yv, ys⟩ := y
              have hys := hmy.2.2.2.2
              dsimp only at hys
              clear hmy htb
              have hE' : D ++ (a.take (k + 1)).flatMap enB = ((D ++ (a.take k).flatMap enB) ++ numsB [yk, yv]) ++ (numB ys.length ++ ys) := by rw [hE, List.append_assoc _ (numsB _) _, List.append_assoc _ (List.flatMap enB _) _]; rfl
              have hlD : (D ++ (a.take k).flatMap enB).length ≤ 40000 := by rw [List.length_append]; omega
              generalize D ++ (a.take k).flatMap enB = C2 at *
              have h2 := fun H => rnums2_spec C2 (by omega) yk yv H
              have h22 : (C2 ++ numsB [yk, yv]).length ≤ 40018 := by rw [List.length_append]; have := numsB_length [yk, yv]; simp only [List.length_cons, List.length_nil] at this; omega
              have ht := fun H => (refText_spec (C2 ++ numsB [yk, yv]) ys (by omega) (by omega) H).froz
              rw [← hE'] at ht
              generalize C2 ++ numsB [yk, yv] = C3 at *
              generalize hG : D ++ (a.take (k + 1)).flatMap enB = C4 at *
              refine wk (wA hck (wA hgk wT)) (wA h2 (wA ht (wA DrM.mk wT))) ?_
              refine ⟨⟨k + 1, by omega⟩, ?_, by dsimp only; omega⟩
              dsimp only
              rw [hG]
              exact Coe.kp
            · obtain rfl : k = a.length := by omega
              rw [List.take_length]
              rw [← hC']
              refine wk (wA hck wT) (wA DrM.mk wT) ?_
              refine ⟨⟨i + 1, by omega⟩, ?_, by dsimp only; omega⟩
              dsimp only
              exact Coe.cutN (M := [_]) (Keeps.kp wT) (fun p hp => by simp only [List.mem_cons, List.not_mem_nil, or_false] at hp; rcases hp with rfl | rfl | rfl <;> first | exact .v _ | exact lt_bytes _ | exact lt_dg _ | exact lt_dl _ | exact lt_en _ | exact .ptr _ _ _ (by simp)) (lt_tk ⟨_, d, l⟩)
        · obtain rfl : i = l.length := by omega
          rw [List.take_length]
          refine wk (wA hc wT) (wA DrM.mk wT) ?_
          refine wkEnd wT ?_
          rw [← List.append_assoc]
          exact Fin.cut (.cons_tup (lt_bytes _) (.cons_tup (.v _) .nil_tup)) ⟨rfl, rfl⟩
set_option maxHeartbeats 8000000 in
theorem refTkEncode3_spec (d : List Dg) (l : List Dl) (hok : tkOk ⟨3, d, l⟩ = true) (H : List Box) : ASpec Tryd.prog 22 [.agg (tkC ⟨3, d, l⟩)] H (Gives (.tup [vB (tB ⟨3, d, l⟩), vi 0]) H) := by
  have h0 := fun H => refTkRight_spec ⟨3, d, l⟩ (tkOk_in hok) H
  rw [hok] at h0
  have hkn : ∀ H, ASpec Tryd.prog 27 [vi 3] H (Gives (vb false) H) := fun H => knows_spec 3 H
  have hte : ∀ H, ASpec Tryd.prog 30 [vi 3] H (Gives (vb true) H) := fun H => tells_spec 3 H
  obtain ⟨_, _, _, hdo, hlo⟩ := tkOk_parts hok
  dsimp only at hdo hlo h0
  have hds := dgs_le hdo
  have hls := dls_le hlo
  have hmay := dlGo_may hlo
  have hd8 := dgOk_len hdo
  have hl8 := dlOk_len hlo
  have hn1 := numB_length_le d.length
  have hn2 := numB_length_le l.length
  have hT : tB ⟨3, d, l⟩ = ([]) ++ (numB l.length ++ l.flatMap dlB) := rfl
  rw [List.nil_append] at hT
  rw [hT]
  clear hT hok hdo hlo
  refine ASpec.enter Tryd.func22 rfl (fun a w => Tryd.call22 a w) Tryd.ntmps22 Tryd.results22 fun base w β hI => ?_
  have hg2 := fun H => rnums1_spec [] (by simp) l.length H
  rw [List.nil_append] at hg2
  refine wkE wT (wA h0 (wA hkn (wA hte (wA hg2 (wA DrM.mk wT))))) ?_
  clear hg2 h0
  refine AWP.loop (ι := {i : Nat // i ≤ l.length}) (fun p => ⟨[(1, .ptr H.length 0 0), (4, vB ((numB l.length) ++ (l.take p.1).flatMap dlB)), (6, vi p.1)], H ++ [⟨tkC ⟨3, d, l⟩, 0, 0, false⟩]⟩) (fun p => l.length - p.1) ⟨0, Nat.zero_le _⟩ ?_ ?_
  · dsimp only
    rw [List.take_zero, List.flatMap_nil, List.append_nil]
    exact Coe.kp
  · rintro ⟨i, hi⟩
    dsimp only
    by_cases hc : (i : Int) < (l.length : Int)
    · have hg : l[i]? = some l[i] := List.getElem?_eq_getElem (by omega)
      have hC := fm_take dlB hg
      have hle := Nat.le_trans (fm_pre dlB l i) hls
      have hmx := hmay l[i] (List.getElem_mem _)
      generalize l[i] = x at *
      have hal := dlA_le hmx
      have htb := mayD_tab hmx
      have h45 := num5_le x.n x.f x.s.g x.s.b x.s.a.length
      clear hmx
      obtain ⟨n, f, g, b, a⟩ := x
      dsimp only at hal htb h45
      have hC' : (numB l.length) ++ (l.take (i + 1)).flatMap dlB = (((numB l.length) ++ (l.take i).flatMap dlB) ++ numsB [n, f, g, b, a.length]) ++ a.flatMap enB := by rw [hC, List.append_assoc _ (numsB _) _, List.append_assoc _ (List.flatMap dlB _) _]; rfl
      have hle' : ((numB l.length) ++ (l.take i).flatMap dlB).length ≤ 30000 := by simp only [List.length_append]; omega
      generalize (numB l.length) ++ (l.take i).flatMap dlB = C at *
      have h5 := fun H => rnums5_spec C (by omega) n f g b a.length H
      have hle2 : (C ++ numsB [n, f, g, b, (a.length : Int)]).length ≤ 30045 := by rw [List.length_append]; omega
      generalize C ++ numsB [n, f, g, b, (a.length : Int)] = D at *
      have hal2 := tabOk_len htb
      refine wk (wA hc (wA hg wT)) (wA h5 (wA DrM.mk wT)) ?_
      clear h5
      refine AWP.loop (ι := {k : Nat // k ≤ a.length}) (fun p => ⟨[(1, .ptr H.length 0 0), (4, vB (D ++ (a.take p.1).flatMap enB)), (6, vi i), (7, .ptr (H.length + 1) 0 0), (8, vi p.1)], H ++ [⟨tkC ⟨3, d, l⟩, 0, 0, false⟩, ⟨dlC ⟨n, f, g, b, a⟩, 0, 0, false⟩]⟩) (fun p => a.length - p.1) ⟨0, Nat.zero_le _⟩ ?_ ?_
      · dsimp only
        rw [List.take_zero, List.flatMap_nil, List.append_nil]
        exact Coe.kp
      · rintro ⟨k, hk⟩
        dsimp only
        by_cases hck : (k : Int) < (a.length : Int)
        · have hgk : a[k]? = some a[k] := List.getElem?_eq_getElem (by omega)
          have hE := fm_take enB hgk
          have hlk := Nat.le_trans (fm_pre enB a k) hal
          have hmy := mayE_iff.1 (tabOk_may htb a[k] (List.getElem_mem _))
          generalize a[k] = y at *
          obtain ⟨yk, yv, ys⟩ := y
          have hys := hmy.2.2.2.2
          dsimp only at hys
          clear hmy htb
          have hE' : D ++ (a.take (k + 1)).flatMap enB = ((D ++ (a.take k).flatMap enB) ++ numsB [yk, yv]) ++ (numB ys.length ++ ys) := by rw [hE, List.append_assoc _ (numsB _) _, List.append_assoc _ (List.flatMap enB _) _]; rfl
          have hlD : (D ++ (a.take k).flatMap enB).length ≤ 40000 := by rw [List.length_append]; omega
          generalize D ++ (a.take k).flatMap enB = C2 at *
          have h2 := fun H => rnums2_spec C2 (by omega) yk yv H
          have h22 : (C2 ++ numsB [yk, yv]).length ≤ 40018 := by rw [List.length_append]; have := numsB_length [yk, yv]; simp only [List.length_cons, List.length_nil] at this; omega
          have ht := fun H => (refText_spec (C2 ++ numsB [yk, yv]) ys (by omega) (by omega) H).froz
          rw [← hE'] at ht
          generalize C2 ++ numsB [yk, yv] = C3 at *
          generalize hG : D ++ (a.take (k + 1)).flatMap enB = C4 at *
          refine wk (wA hck (wA hgk wT)) (wA h2 (wA ht (wA DrM.mk wT))) ?_
          refine ⟨⟨k + 1, by omega⟩, ?_, by dsimp only; omega⟩
          dsimp only
          rw [hG]
          exact Coe.kp
        · obtain rfl : k = a.length := by omega
          rw [List.take_length]
          rw [← hC']
          refine wk (wA hck wT) (wA DrM.mk wT) ?_
          refine ⟨⟨i + 1, by omega⟩, ?_, by dsimp only; omega⟩
          dsimp only
          exact Coe.cutN (M := [_]) (Keeps.kp wT) (fun p hp => by simp only [List.mem_cons, List.not_mem_nil, or_false] at hp; rcases hp with rfl | rfl | rfl <;> first | exact .v _ | exact lt_bytes _ | exact lt_dg _ | exact lt_dl _ | exact lt_en _ | exact .ptr _ _ _ (by simp)) (lt_tk ⟨_, d, l⟩)
    · obtain rfl : i = l.length := by omega
      rw [List.take_length]
      refine wk (wA hc wT) (wA DrM.mk wT) ?_
      refine wkEnd wT ?_
      exact Fin.cut (.cons_tup (lt_bytes _) (.cons_tup (.v _) .nil_tup)) ⟨rfl, rfl⟩

set_option maxHeartbeats 2000000 in
theorem refTkEncode_spec (t : Tk) (ht : TkIn t) (H : List Box) : ASpec Tryd.prog 22 [.agg (tkC t)] H (Gives (beV (encT t)) H) := by
  unfold encT
  cases hok : tkOk t with
  | false =>
    have h0 := fun H => refTkRight_spec t ht H
    rw [hok] at h0
    rw [if_neg (by simp)]
    refine ASpec.enter Tryd.func22 rfl (fun a w => Tryd.call22 a w) Tryd.ntmps22 Tryd.results22 fun base w β hI => ?_
    refine wk wT (wA h0 (wA DrM.mk wT)) ?_
    refine wkEnd wT ?_
    exact Fin.empB ⟨rfl, rfl⟩
  | true =>
    rw [if_pos rfl]
    obtain ⟨⟨k1, k8⟩, hd, hl, _, _⟩ := tkOk_parts hok
    obtain ⟨k, d, l⟩ := t
    dsimp only at k1 k8 hd hl
    by_cases h4 : k < 4
    · rcases (show k = 1 ∨ k = 2 ∨ k = 3 by omega) with rfl | rfl | rfl
      · exact refTkEncode1_spec d l hok H
      · exact refTkEncode2_spec d l hok H
      · exact refTkEncode3_spec d l hok H
    · have hk1 : knows k = false := decide_eq_false (by omega)
      have hk2 : tells k = false := decide_eq_false (by omega)
      have h0 := fun H => refTkRight_spec _ ht H
      rw [hok] at h0
      have h1 := fun H => knows_spec k H
      have h2 := fun H => tells_spec k H
      rw [hk1] at h1
      rw [hk2] at h2
      have hT : tB ⟨k, d, l⟩ = [] := by unfold tB; simp only [hk1, hk2, Bool.false_eq_true, if_false, List.append_nil]
      rw [hT]
      refine ASpec.enter Tryd.func22 rfl (fun a w => Tryd.call22 a w) Tryd.ntmps22 Tryd.results22 fun base w β hI => ?_
      refine wk wT (wA h0 (wA h1 (wA h2 (wA DrM.mk wT)))) ?_
      refine wkEnd wT ?_
      exact Fin.empB ⟨rfl, rfl⟩

theorem refWrap_spec (t : Tk) (ht : TkIn t) (c : List UInt8) (hc : c.length ≤ 9223372036854775807) (n : Int) (H : List Box) : ASpec Tryd.prog 23 [.agg (tkC t), vs c, vi n] H (Gives (wrapT t c n) H) := by
  have h0 := fun H => refTkEncode_spec t ht H
  unfold wrapT
  unfold encT at h0
  cases hok : tkOk t with
  | false =>
    rw [hok, if_neg (by simp)] at h0
    rw [if_neg (by simp)]
    refine ASpec.enter Tryd.func23 rfl (fun a w => Tryd.call23 a w) Tryd.ntmps23 Tryd.results23 fun base w β hI => ?_
    refine wk wT (wA h0 (wA DrM.mk wT)) ?_
    refine wkEnd wT ?_
    exact Fin.cut (.cons_tup .emp (.cons_tup (.v _) .nil_tup)) ⟨rfl, rfl⟩
  | true =>
    rw [hok, if_pos rfl] at h0
    rw [if_pos rfl]
    have h1 := fun H => refEncode_spec (frT t c n) (Nat.le_trans (tB_le hok) (by omega)) hc H
    unfold encV at h1 ⊢
    cases hr : frRight (frT t c n) with
    | true =>
      rw [hr, if_pos rfl] at h1
      rw [if_pos rfl]
      generalize frB (frT t c n) = X at *
      unfold frT at h1
      try dsimp only at h1 h0
      generalize tB t = B at *
      obtain ⟨k, d, l⟩ := t
      refine ASpec.enter Tryd.func23 rfl (fun a w => Tryd.call23 a w) Tryd.ntmps23 Tryd.results23 fun base w β hI => ?_
      refine wk wT (wA h0 (wA h1 (wA DrM.mk wT))) ?_
      refine wkEnd wT ?_
      exact Fin.cut (.cons_tup (lt_bytes _) (.cons_tup (.v _) .nil_tup)) ⟨rfl, rfl⟩
    | false =>
      rw [hr, if_neg (by simp)] at h1
      rw [if_neg (by simp)]
      unfold frT at h1
      try dsimp only at h1 h0
      generalize tB t = B at *
      obtain ⟨k, d, l⟩ := t
      refine ASpec.enter Tryd.func23 rfl (fun a w => Tryd.call23 a w) Tryd.ntmps23 Tryd.results23 fun base w β hI => ?_
      refine wk wT (wA h0 (wA h1 (wA DrM.mk wT))) ?_
      refine wkEnd wT ?_
      exact Fin.cut (.cons_tup .emp (.cons_tup (.v _) .nil_tup)) ⟨rfl, rfl⟩


end Go.Proofs.YtjkdahpoalnjjaaDoor.VL

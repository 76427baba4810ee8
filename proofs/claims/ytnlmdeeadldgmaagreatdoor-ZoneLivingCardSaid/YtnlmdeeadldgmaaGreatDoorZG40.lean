/- Layer 18: what the reference tells of a name: its last loop. -/
import Derived.Test.YtnlmdeeadldgmaaGreatDoorZG39
import Derived.Test.YtnlmdeeadldgmaaGreatDoorZG37
import Derived.Test.YtnlmdeeadldgmaaGreatDoorZG38
-- STEPWISE
-- WK
set_option linter.unusedVariables false
set_option linter.unusedSimpArgs false
set_option maxRecDepth 10000
namespace Go.Proofs.YtnlmdeeadldgmaaGreatDoor.VL
open Go Go.RowKit Go.Lib

/-- A slot's slice of one's own is only read from now on. -/
theorem Coe.freezeTmp {E : Ent} {l : List (Nat × AV)} {H : List Box} {t b g n sz : Nat} {bx : Box} {G : List (List AV)} (hl : lk l t = .sl b g 0 n sz false) (hb : H[b]? = some bx) (hg : bx.gen = g) (hfit : n * sz ≤ bx.cells.length) (hG : chunk sz n bx.cells = G) :
    Coe E ⟨l, H⟩ ⟨(t, .lst sz G) :: l, H.set b { bx with ro := max bx.ro (n * sz) }⟩ := fun a w ⟨β, hs⟩ => by
  obtain ⟨h1, h2⟩ := freeze_inv hs.inv hb hfit
  refine ⟨β, ⟨hs.defers, hs.size, h1, hs.stp.trans h2, fun k => ?_⟩⟩
  have hk := (hs.tmps k).stp h2
  dsimp only at hk ⊢
  rw [lk_cons]
  by_cases hkt : t = k
  · subst hkt
    rw [if_pos rfl]
    rw [hl] at hk
    have hv := rep_view (bx := { bx with ro := max bx.ro (n * sz) }) h1 (List.getElem?_set_self (List.getElem?_eq_some_iff.1 hb).1) hg (by rw [Nat.zero_add]; exact Nat.le_max_right _ _) hk
    rwa [List.drop_zero, hG] at hv
  · rw [if_neg hkt]; exact hk
theorem Coe.empTmp {E : Ent} {l : List (Nat × AV)} {H : List Box} {t sz : Nat} (hl : lk l t = .emp) : Coe E ⟨l, H⟩ ⟨(t, .lst sz []) :: l, H⟩ := fun a w ⟨β, hs⟩ => by
  refine ⟨β, ⟨hs.defers, hs.size, hs.inv, hs.stp, fun k => ?_⟩⟩
  have hk := hs.tmps k
  dsimp only at hk ⊢
  rw [lk_cons]
  by_cases hkt : t = k
  · subst hkt
    rw [if_pos rfl]
    rw [hl] at hk
    generalize a.tmps.getD t undef = v at hk
    cases hk with
    | emp a => exact .lst0 _ _ _
  · rw [if_neg hkt]; exact hk

set_option maxHeartbeats 2000000 in
theorem tell18_last (name : List UInt8) (t : Int) (D : List (List UInt8)) (hD : D.length ≤ 1200000000000) (E : Ent) (hE : E.n = 171) (Q : AExit → ASt → Prop) (body : Code) (hbody : (Tryz.f27.body).bind lastLoop = some body)
    (hQ : ∀ k g, lk k 25 = .sl E.H.length g 0 D.length 5 false → Q (.exit 5) ⟨k, E.H ++ [⟨zrS (tlN name t D), 0, g, true⟩]⟩) :
    AWP Tryz.prog E (.loop body) Q ⟨[(1, vs name), (2, vi t), (7, .lst 1 (strG D)), (25, .emp), (26, vi 0)], E.H⟩ := by
  obtain ⟨base, ne, w, H, β, hI, ds⟩ := E
  dsimp only at hE hQ ⊢
  subst hE
  dsimp only [lastLoop, firstLoop, Option.bind, Tryz.f27] at hbody
  injection hbody with hbody
  subst hbody
  refine AWP.loop (ι := {p : Nat × Nat // p.1 ≤ D.length}) (fun p => ⟨[(1, vs name), (2, vi t), (7, .lst 1 (strG D)), (25, .sl H.length p.1.2 0 p.1.1 5 false), (26, vi p.1.1)], H ++ [⟨zrS (tlN name t (D.take p.1.1)), 0, p.1.2, true⟩]⟩) (fun p => D.length - p.1.1) ⟨(0, 0), Nat.zero_le _⟩ ?_ ?_
  · dsimp only [List.take_zero, tlN, List.map_nil, zrS, flat]
    exact Coe.emp0 (t := 25) (sz := 5) rfl (Keeps.kp wT)
  · rintro ⟨⟨i, g⟩, hi⟩
    dsimp only at hi ⊢
    by_cases hc : (i : Int) < (D.length : Int)
    · have hg : D[i]? = some D[i] := List.getElem?_eq_getElem (by omega)
      generalize D[i] = x at hg
      have hsn := rrS_snoc (tlN name t (D.take i)) (toldN name t x)
      rw [← tlN_one, ← tlN_app, ← take_snoc hg] at hsn
      have hsn : zrS (tlN name t (D.take i)) ++ [vs name, vi t, vi 1, vi 5, vs x] = zrS (tlN name t (D.take (i + 1))) := hsn
      have hrl := rrS_length (tlN name t (D.take i))
      rw [show (tlN name t (D.take i)).length = i by simp [tlN]; omega] at hrl
      generalize zrS (tlN name t (D.take i)) = A at *
      generalize hB : zrS (tlN name t (D.take (i + 1))) = B at *
      refine wk (wA hc (wA hg (wA hsn (wA hrl wT)))) (wA DrM.mk wT) ?_
      refine ⟨⟨(i + 1, g + 1), by dsimp only; omega⟩, ?_, by dsimp only; omega⟩
      dsimp only
      rw [hB]
      exact Coe.kp
    · have hil : i = D.length := by omega
      subst hil
      rw [List.take_length]
      refine wk (wA hc wT) (wA DrM.mk wT) ?_
      exact hQ _ _ rfl

end Go.Proofs.YtnlmdeeadldgmaaGreatDoor.VL

/- Layer 18: what the reference tells of a name. -/
-- STEPWISE
-- WK
-- TAILN 31 21
set_option linter.unusedVariables false
set_option linter.unusedSimpArgs false
set_option maxRecDepth 10000
namespace Go.Proofs.YtnlmdeeadldgmaaGreatDoor.VL
open Go Go.RowKit Go.Lib

/-- The data that were collected are only read from now on; all else is forgotten. -/
theorem tl18_sl {E : Ent} {l : List (Nat × AV)} {N : List Box} {k g n : Nat} {bx : Box} {D : List (List UInt8)} {name : List UInt8} {t : Int} (hl : lk l 7 = .sl (E.H.length + k) g 0 n 1 false) (hb : N[k]? = some bx) (hg : bx.gen = g) (hn : n = D.length) (hc : bx.cells = strC D)
    (h1 : lk l 1 = vs name) (h2 : lk l 2 = vi t) (h25 : lk l 25 = .emp) (h26 : lk l 26 = vi 0) : Coe E ⟨l, E.H ++ N⟩ ⟨[(1, vs name), (2, vi t), (7, .lst 1 (strG D)), (25, .emp), (26, vi 0)], E.H⟩ := by
  subst hn
  refine Coe.trans (Coe.freezeTmp (t := 7) (G := strG D) hl (zbox _ _ k hb) hg (by rw [hc, strC_length]; omega) (by rw [hc]; exact chunk_strC D _ rfl)) ?_
  rw [List.set_append_right _ _ (by omega), Nat.add_sub_cancel_left]
  refine Coe.cut0 ?_ ?_
  · intro p hp
    simp only [List.mem_cons, List.not_mem_nil, or_false] at hp
    rcases hp with rfl | rfl | rfl | rfl | rfl
    · exact h1
    · exact h2
    · rfl
    · exact h25
    · exact h26
  · intro p hp
    simp only [List.mem_cons, List.not_mem_nil, or_false] at hp
    rcases hp with rfl | rfl | rfl | rfl | rfl
    · exact .v _
    · exact .v _
    · exact (lt_str D).mono (Nat.zero_le _)
    · exact .emp
    · exact .v _
theorem tl18_emp {E : Ent} {l : List (Nat × AV)} {N : List Box} {name : List UInt8} {t : Int} (hl : lk l 7 = .emp)
    (h1 : lk l 1 = vs name) (h2 : lk l 2 = vi t) (h25 : lk l 25 = .emp) (h26 : lk l 26 = vi 0) : Coe E ⟨l, E.H ++ N⟩ ⟨[(1, vs name), (2, vi t), (7, .lst 1 (strG [])), (25, .emp), (26, vi 0)], E.H⟩ := by
  refine Coe.trans (Coe.empTmp (t := 7) (sz := 1) hl) ?_
  refine Coe.cut0 ?_ ?_
  · intro p hp
    simp only [List.mem_cons, List.not_mem_nil, or_false] at hp
    rcases hp with rfl | rfl | rfl | rfl | rfl
    · exact h1
    · exact h2
    · rfl
    · exact h25
    · exact h26
  · intro p hp
    simp only [List.mem_cons, List.not_mem_nil, or_false] at hp
    rcases hp with rfl | rfl | rfl | rfl | rfl
    · exact .v _
    · exact .v _
    · exact (lt_str []).mono (Nat.zero_le _)
    · exact .emp
    · exact .v _

def srvI (s : Sc) (name : List UInt8) (n : Int) : List (List UInt8) := if (hostN s.d n).2 then (refOff s n name).map fun v => bes 2 [v.i, v.w, v.o] ++ (hostN s.d n).1 else []
theorem refTell33 (s : Sc) (name : List UInt8) : refTellD s name 33 = (numsN s).flatMap (srvI s name) := by
  unfold refTellD numsN
  rw [if_neg (by omega), if_neg (by omega), if_neg (by omega), if_pos rfl, List.flatMap_map]
  rfl
theorem refOff_len {s : Sc} (hs : ScIn s) (n : Int) (name : List UInt8) : (refOff s n name).length ≤ 1048576 := by
  have h1 := (apps_in hs n).1
  have h2 := allS_le (appsN s n)
  have h3 : (refOff s n name).length ≤ (allS (appsN s n)).length := List.length_filter_le _ _
  omega
theorem srvI_len {s : Sc} (hs : ScIn s) (name : List UInt8) (n : Int) : (srvI s name n).length ≤ 1048576 := by
  have := refOff_len hs n name
  unfold srvI
  split
  · rw [List.length_map]; exact this
  · simp
theorem srv_len {s : Sc} (hs : ScIn s) (name : List UInt8) : ∀ L : List Int, (L.flatMap (srvI s name)).length ≤ L.length * 1048576
  | [] => by simp
  | n :: L => by
    have h1 := srvI_len hs name n
    have h2 := srv_len hs name L
    rw [List.flatMap_cons, List.length_append, List.length_cons, Nat.succ_mul]
    omega

theorem numsN_len' {s : Sc} (h : ScIn s) : (numsN s).length ≤ 1048576 := by
  unfold numsN
  rw [List.length_map]
  exact Nat.le_trans (List.length_filter_le _ _) h.v
theorem srvI_eq (s : Sc) (name : List UInt8) (n : Int) : srvI s name n = if (hostN s.d n).2 then (refOff s n name).map fun v => bes 2 [v.i, v.w, v.o] ++ (hostN s.d n).1 else [] := rfl

set_option maxHeartbeats 8000000 in
theorem tell18_loop (s : Sc) (name : List UInt8) (hs : ScIn s) (hn : name.length ≤ 1048576) (t : Int) (st : St) (hL : (numsN s).length ≤ 1048576) (E : Ent) (hE : E.n = 171) (Q : AExit → ASt → Prop) (body : Code) (hbody : (Tryz.f27.body).bind firstLoop = some body)
    (hQ : ∀ k g, lk k 1 = vs name → lk k 2 = vi t → lk k 7 = .sl (E.H.length + 2) g 0 ((numsN s).flatMap (srvI s name)).length 1 false → Q (.exit 1) ⟨k, E.H ++ [⟨scC s, 0, 0, false⟩, ⟨stC st, 0, 0, false⟩, ⟨strC ((numsN s).flatMap (srvI s name)), 0, g, true⟩]⟩) :
    AWP Tryz.prog E (.loop body) Q ⟨[(1, vs name), (2, vi t), (3, .ptr E.H.length 0 0), (7, .emp), (19, .lst 1 (inG (numsN s))), (20, vi 0)], E.H ++ [⟨scC s, 0, 0, false⟩, ⟨stC st, 0, 0, false⟩]⟩ := by
  have hd := hs.d
  have hho := fun n H => host18_spec s n hd H
  have hof := fun n H => offered_spec s n name hs hn H
  have hlen := srv_len hs name
  have hol := fun n => refOff_len hs n name
  have hIe := srvI_eq s name
  generalize srvI s name = I at *
  generalize numsN s = L at *
  clear hs
  obtain ⟨v, a, d⟩ := s
  have hhl := hostN_len d
  obtain ⟨base, ne, w, H, β, hI, ds⟩ := E
  dsimp only at *
  subst hE
  dsimp only [firstLoop, Option.bind, Tryz.f27] at hbody
  injection hbody with hbody
  subst hbody
  refine AWP.loop (ι := {p : Nat × Nat // p.1 ≤ L.length}) (fun p => ⟨[(1, vs name), (2, vi t), (3, .ptr H.length 0 0), (7, .sl (H.length + 2) p.1.2 0 ((L.take p.1.1).flatMap I).length 1 false), (19, .lst 1 (inG L)), (20, vi p.1.1)], H ++ [⟨scC ⟨v, a, d⟩, 0, 0, false⟩, ⟨stC st, 0, 0, false⟩, ⟨strC ((L.take p.1.1).flatMap I), 0, p.1.2, true⟩]⟩) (fun p => L.length - p.1.1) ⟨(0, 0), Nat.zero_le _⟩ ?_ ?_
  · dsimp only [List.take_zero, List.flatMap_nil, List.length_nil]
    exact Coe.emp (t := 7) (sz := 1) (N := [_, _]) rfl (Keeps.kp wT)
  · rintro ⟨⟨i, g⟩, hi⟩
    dsimp only at hi ⊢
    by_cases hc : (i : Int) < (L.length : Int)
    · have hg : L[i]? = some L[i] := List.getElem?_eq_getElem (by omega)
      generalize L[i] = n at hg
      have hsn : (L.take (i + 1)).flatMap I = (L.take i).flatMap I ++ I n := by rw [take_snoc hg, List.flatMap_append]; simp
      have hAl : ((L.take i).flatMap I).length ≤ 1099511627776 := by
        refine Nat.le_trans (hlen _) ?_
        rw [List.length_take]
        exact Nat.mul_le_mul (show min i L.length ≤ 1048576 by omega) (Nat.le_refl 1048576)
      have hhn := hho n
      have hon := hof n
      have hIn := hIe n
      have hnl := hhl n
      have hml := hol n
      generalize (L.take i).flatMap I = A at *
      generalize hA' : (L.take (i + 1)).flatMap I = A' at *
      generalize refOff ⟨v, a, d⟩ n name = M at *
      generalize hostN d n = h at *
      obtain ⟨h, is⟩ := h
      dsimp only at *
      clear hho hof hIe hhl hol hlen
      cases is with
      | false =>
        rw [if_neg (by simp)] at hIn
        rw [hIn, List.append_nil] at hsn
        subst hsn
        clear hIn
        refine wk (wA hc (wA hg wT)) (wA hhn (wA hon (wA ((TnM.mk (id := 31) (n := 21))) (wA DrM.mk wT)))) ?_
        refine AWP.loop (ι := Unit) (fun _ => ⟨[(1, vs name), (2, vi t), (3, .ptr H.length 0 0), (7, .sl (H.length + 2) g 0 A'.length 1 false), (19, .lst 1 (inG L)), (20, vi i), (21, vs h), (22, vb false), (23, .lst 6 (svG M)), (24, vi 0)], H ++ [⟨scC ⟨v, a, d⟩, 0, 0, false⟩, ⟨stC st, 0, 0, false⟩, ⟨strC A', 0, g, true⟩]⟩) (fun _ => 0) () ?_ ?_
        · exact Coe.kp
        · rintro ⟨⟩
          by_cases hm : (0 : Int) < (M.length : Int)
          · refine wk (wA hm wT) (wA ((TnM.mk (id := 31) (n := 21))) (wA DrM.mk wT)) ?_
            refine ⟨⟨(i + 1, g), by dsimp only; omega⟩, ?_, by dsimp only; omega⟩
            dsimp only
            rw [hA']
            exact Coe.kp
          · refine wk (wA hm wT) (wA ((TnM.mk (id := 31) (n := 21))) (wA DrM.mk wT)) ?_
            refine ⟨⟨(i + 1, g), by dsimp only; omega⟩, ?_, by dsimp only; omega⟩
            dsimp only
            rw [hA']
            exact Coe.kp
      | true =>
        rw [if_pos rfl] at hIn
        rw [hIn] at hsn
        clear hIn
        refine wk (wA hc (wA hg wT)) (wA hhn (wA hon (wA ((TnM.mk (id := 31) (n := 21))) (wA DrM.mk wT)))) ?_
        refine AWP.loop (ι := {q : Nat × Nat // q.1 ≤ M.length}) (fun q => ⟨[(1, vs name), (2, vi t), (3, .ptr H.length 0 0), (7, .sl (H.length + 2) q.1.2 0 (A ++ (M.take q.1.1).map fun v => bes 2 [v.i, v.w, v.o] ++ h).length 1 false), (19, .lst 1 (inG L)), (20, vi i), (21, vs h), (22, vb true), (23, .lst 6 (svG M)), (24, vi q.1.1)], H ++ [⟨scC ⟨v, a, d⟩, 0, 0, false⟩, ⟨stC st, 0, 0, false⟩, ⟨strC (A ++ (M.take q.1.1).map fun v => bes 2 [v.i, v.w, v.o] ++ h), 0, q.1.2, true⟩]⟩) (fun q => M.length - q.1.1) ⟨(0, g), Nat.zero_le _⟩ ?_ ?_
        · simp only [List.take_zero, List.map_nil, List.append_nil]
          exact Coe.kp
        · rintro ⟨⟨k, g2⟩, hk⟩
          dsimp only at hk ⊢
          by_cases hm : (k : Int) < (M.length : Int)
          · have hgk : M[k]? = some M[k] := List.getElem?_eq_getElem (by omega)
            generalize M[k] = x at hgk
            have hbs : A ++ (M.take (k + 1)).map (fun v => bes 2 [v.i, v.w, v.o] ++ h) = (A ++ (M.take k).map fun v => bes 2 [v.i, v.w, v.o] ++ h) ++ [bes 2 [x.i, x.w, x.o] ++ h] := by
              rw [take_snoc hgk, List.map_append, ← List.append_assoc]; rfl
            have hBl : (A ++ (M.take k).map fun v => bes 2 [v.i, v.w, v.o] ++ h).length ≤ 2199023255552 := by
              rw [List.length_append, List.length_map, List.length_take]; omega
            have hly : ∀ H, ASpec Tryz.prog 70 [vi 2, .lst 1 [[vi x.i], [vi x.w], [vi x.o]]] H (Gives (vs (bes 2 [x.i, x.w, x.o])) H) := fun H => refLay18_spec 2 [x.i, x.w, x.o] (by simp) (by simp) H
            have hzl := bes_length 2 [x.i, x.w, x.o]
            simp only [List.length_cons, List.length_nil] at hzl
            generalize hB : (A ++ (M.take k).map fun v => bes 2 [v.i, v.w, v.o] ++ h) = B at *
            generalize hB' : (A ++ (M.take (k + 1)).map fun v => bes 2 [v.i, v.w, v.o] ++ h) = B' at *
            generalize bes 2 [x.i, x.w, x.o] = z at *
            generalize hy : z ++ h = y at *
            subst hbs
            obtain ⟨xn, xp, xo, xi, xw, xl⟩ := x
            dsimp only at *
            clear hB hsn hhn hon
            have hyl : (B ++ [y]).length = B.length + 1 := by simp
            refine wk (wA hm (wA hgk (wA strApp (wA hy wT)))) (wA hly (wA ((TnM.mk (id := 31) (n := 21))) (wA DrM.mk wT))) ?_
            refine ⟨⟨(k + 1, g2 + 1), by dsimp only; omega⟩, ?_, by dsimp only; omega⟩
            dsimp only
            rw [hB', hyl]
            exact Coe.kp
          · have hkl : k = M.length := by omega
            subst hkl
            rw [List.take_length, ← hsn]
            refine wk (wA hm wT) (wA ((TnM.mk (id := 31) (n := 21))) (wA DrM.mk wT)) ?_
            refine ⟨⟨(i + 1, g2), by dsimp only; omega⟩, ?_, by dsimp only; omega⟩
            dsimp only
            rw [hA']
            exact Coe.kp
    · have hil : i = L.length := by omega
      subst hil
      rw [List.take_length]
      refine wk (wA hc wT) (wA ((TnM.mk (id := 31) (n := 21))) (wA DrM.mk wT)) ?_
      exact hQ _ _ rfl rfl rfl

theorem fin_tl18 {E : Ent} {name : List UInt8} {t : Int} {g : Nat} {D : List (List UInt8)} :
    Fin E (.sl E.H.length g 0 D.length 5 false) (E.H ++ [⟨zrS (tlN name t D), 0, g, true⟩]) (fun r H => Gives (.lst 5 (rrG (tlN name t D))) E.H (.ret r) H) := by
  have hl : (tlN name t D).length = D.length := by simp [tlN]
  have hc := chunk_rrS (tlN name t D)
  rw [hl] at hc
  exact Fin.frozG (G := rrG (tlN name t D)) (b := E.H.length) (bx := ⟨zrS (tlN name t D), 0, g, true⟩) (by simp) (Nat.le_refl _) rfl (by dsimp only; rw [rrS_length, hl]; omega) hc (fun w H β v hx hr => hx v hr) (lt_rr _) ⟨rfl, rfl⟩

set_option maxHeartbeats 16000000 in
theorem tell18_spec (s : Sc) (name : List UInt8) (t : Int) (hs : ScIn s) (hn : name.length ≤ 1048576) (H : List Box) : ASpec Tryz.prog 27 [.agg (scC s), vs name, vi t] H (Gives (.lst 5 (rrG (tlN name t (refTellD s name t)))) H) := by
  have hd := hs.d
  have c1 := fun H => node18_spec s name hs hn H
  have c2 := fun H => get6_spec s.v (refHost s name) hs.v hs.n H
  have c3 := fun H => start0_spec s hd H
  have c4 : ∀ H, ASpec Tryz.prog 54 [.agg (scC s), .lst 1 [[vs [110, 115]]]] H (Gives (.tup [vs (winN s.d [[110, 115]]).1, vb (winN s.d [[110, 115]]).2]) H) := fun H => ahead_spec s [[110, 115]] (by omega) (by simp) (by simp) (by simp [lenS]) H
  have c5 := fun H => refSame16_spec name s.d (by omega) (by omega) H
  have c7 := fun H => counts18_spec s hs H
  have ca := fun key H => address15_spec (stNd s.v (refHost s name)).a key (by rw [stN_apps]; have := (apps_in hs (refHost s name)).1; omega) H
  have hL := numsN_len' hs
  have hloop := tell18_loop s name hs hn 33
  have h33 := refTell33 s name
  have hSl : ((numsN s).flatMap (srvI s name)).length ≤ 1200000000000 := by
    have h1 := srv_len hs name (numsN s)
    have h2 : (numsN s).length * 1048576 ≤ 1048576 * 1048576 := Nat.mul_le_mul hL (Nat.le_refl _)
    omega
  by_cases ht : t = 33
  · subst ht
    rw [h33]
    clear h33 ca c5
    generalize stNd s.v (refHost s name) = st at *
    generalize (getN s.v (refHost s name)).isSome = gok at *
    generalize refHost s name = r at *
    generalize soaB s.d = so at *
    generalize startOk s.d = sok at *
    generalize winN s.d [[110, 115]] = W at *
    obtain ⟨W, wok⟩ := W
    have hlp := hloop st hL
    clear hloop
    generalize hD : (numsN s).flatMap (srvI s name) = D at *
    generalize numsN s = M at *
    clear hs hL hD
    obtain ⟨v, a, d⟩ := s
    obtain ⟨sg, sb, sa⟩ := st
    dsimp only at *
    refine ASpec.enter Tryz.func27 rfl (fun a w => Tryz.call27 a w) Tryz.ntmps27 Tryz.results27 fun base w β hI => ?_
    refine wk wT (wA c1 (wA c2 (wA c3 (wA c4 (wA c7 (wA ((TnM.mk (id := 31) (n := 21))) (wA DrM.mk wT))))))) ?_
    refine AWP.coe ?_ (hlp ⟨base, 171, w, H, β, hI, []⟩ rfl _ _ rfl ?_)
    · dsimp only
      exact Coe.kp
    · intro k g h1 h2 h7
      dsimp only at h7 ⊢
      refine wk (wA h1 (wA h2 (wA h7 wT))) (wA ((TnM.mk (id := 31) (n := 21))) (wA DrM.mk wT)) ?_
      refine AWP.coe (tl18_sl (k := 2) (D := D) (t := 33) (N := [_, _, _]) h7 rfl rfl rfl rfl h1 h2 rfl rfl) (tell18_last name 33 D hSl ⟨base, 171, w, H, β, hI, []⟩ rfl _ _ rfl ?_)
      intro k g hk
      refine wk (wA hk wT) (wA ((TnM.mk (id := 31) (n := 21))) (wA DrM.mk wT)) ?_
      try simp only [bodyQ, go_sem, Nat.reduceBEq, Nat.reduceLT, Nat.reduceEqDiff, reduceIte, Nat.reduceAdd, Nat.reduceMul, Nat.reduceSub, Nat.reduceLeDiff, Int.reduceToNat, Int.reducePow, Int.reduceLT, Int.reduceEq, Int.reduceBEq, Int.reduceNeg, Nat.reducePow, List.reduceReplicate, Int.reduceLE]
      exact fin_tl18
  clear h33 hloop c7 hL hSl
  unfold refTellD
  rw [← stN_apps]
  generalize stNd s.v (refHost s name) = st at *
  generalize (getN s.v (refHost s name)).isSome = gok at *
  generalize refHost s name = r at *
  generalize soaB s.d = so at *
  generalize startOk s.d = sok at *
  generalize sameN name s.d = q at *
  generalize winN s.d [[110, 115]] = W at *
  obtain ⟨W, wok⟩ := W
  clear hs
  obtain ⟨v, a, d⟩ := s
  obtain ⟨sg, sb, sa⟩ := st
  dsimp only at *
  by_cases h1 : t = 1
  · subst h1
    rw [if_pos (by omega)]
    have ca := ca 1
    simp only [show ((1 : Int) = 28) = False by simp, if_true, if_false]
    generalize addrE sa 1 = x at *
    obtain ⟨x, xok⟩ := x
    dsimp only at *
    by_cases h0 : 0 ≤ r
    · cases xok with
      | true =>
        rw [if_pos ⟨h0, rfl⟩]
        refine ASpec.enter Tryz.func27 rfl (fun a w => Tryz.call27 a w) Tryz.ntmps27 Tryz.results27 fun base w β hI => ?_
        refine wk (wA h0 wT) (wA c1 (wA c2 (wA c3 (wA c4 (wA ca (wA ((TnM.mk (id := 31) (n := 21))) (wA DrM.mk wT))))))) ?_
        refine AWP.coe (tl18_sl (k := 2) (D := [x]) (t := 1) rfl rfl rfl rfl rfl rfl rfl rfl rfl) (tell18_last name 1 [x] (by simp) ⟨base, 171, w, H, β, hI, []⟩ rfl _ _ rfl ?_)
        intro k g hk
        refine wk (wA hk wT) (wA ((TnM.mk (id := 31) (n := 21))) (wA DrM.mk wT)) ?_
        try simp only [bodyQ, go_sem, Nat.reduceBEq, Nat.reduceLT, Nat.reduceEqDiff, reduceIte, Nat.reduceAdd, Nat.reduceMul, Nat.reduceSub, Nat.reduceLeDiff, Int.reduceToNat, Int.reducePow, Int.reduceLT, Int.reduceEq, Int.reduceBEq, Int.reduceNeg, Nat.reducePow, List.reduceReplicate, Int.reduceLE]
        exact fin_tl18
      | false =>
        rw [if_neg (by simp)]
        refine ASpec.enter Tryz.func27 rfl (fun a w => Tryz.call27 a w) Tryz.ntmps27 Tryz.results27 fun base w β hI => ?_
        refine wk (wA h0 wT) (wA c1 (wA c2 (wA c3 (wA c4 (wA ca (wA ((TnM.mk (id := 31) (n := 21))) (wA DrM.mk wT))))))) ?_
        refine AWP.coe (tl18_emp (t := 1) (N := [_, _]) rfl rfl rfl rfl rfl) (tell18_last name 1 [] (by simp) ⟨base, 171, w, H, β, hI, []⟩ rfl _ _ rfl ?_)
        intro k g hk
        refine wk (wA hk wT) (wA ((TnM.mk (id := 31) (n := 21))) (wA DrM.mk wT)) ?_
        try simp only [bodyQ, go_sem, Nat.reduceBEq, Nat.reduceLT, Nat.reduceEqDiff, reduceIte, Nat.reduceAdd, Nat.reduceMul, Nat.reduceSub, Nat.reduceLeDiff, Int.reduceToNat, Int.reducePow, Int.reduceLT, Int.reduceEq, Int.reduceBEq, Int.reduceNeg, Nat.reducePow, List.reduceReplicate, Int.reduceLE]
        exact fin_tl18
    · rw [if_neg (fun h => h0 h.1)]
      refine ASpec.enter Tryz.func27 rfl (fun a w => Tryz.call27 a w) Tryz.ntmps27 Tryz.results27 fun base w β hI => ?_
      refine wk (wA h0 wT) (wA c1 (wA c2 (wA c3 (wA c4 (wA ca (wA ((TnM.mk (id := 31) (n := 21))) (wA DrM.mk wT))))))) ?_
      refine AWP.coe (tl18_emp (t := 1) (N := [_, _]) rfl rfl rfl rfl rfl) (tell18_last name 1 [] (by simp) ⟨base, 171, w, H, β, hI, []⟩ rfl _ _ rfl ?_)
      intro k g hk
      refine wk (wA hk wT) (wA ((TnM.mk (id := 31) (n := 21))) (wA DrM.mk wT)) ?_
      try simp only [bodyQ, go_sem, Nat.reduceBEq, Nat.reduceLT, Nat.reduceEqDiff, reduceIte, Nat.reduceAdd, Nat.reduceMul, Nat.reduceSub, Nat.reduceLeDiff, Int.reduceToNat, Int.reducePow, Int.reduceLT, Int.reduceEq, Int.reduceBEq, Int.reduceNeg, Nat.reducePow, List.reduceReplicate, Int.reduceLE]
      exact fin_tl18
  by_cases h28 : t = 28
  · subst h28
    rw [if_pos (by omega)]
    have ca := ca 2
    simp only [show ((28 : Int) = 28) = True by simp, if_true, if_false]
    generalize addrE sa 2 = x at *
    obtain ⟨x, xok⟩ := x
    dsimp only at *
    by_cases h0 : 0 ≤ r
    · cases xok with
      | true =>
        rw [if_pos ⟨h0, rfl⟩]
        refine ASpec.enter Tryz.func27 rfl (fun a w => Tryz.call27 a w) Tryz.ntmps27 Tryz.results27 fun base w β hI => ?_
        refine wk (wA h0 wT) (wA c1 (wA c2 (wA c3 (wA c4 (wA ca (wA ((TnM.mk (id := 31) (n := 21))) (wA DrM.mk wT))))))) ?_
        refine AWP.coe (tl18_sl (k := 2) (D := [x]) (t := 28) rfl rfl rfl rfl rfl rfl rfl rfl rfl) (tell18_last name 28 [x] (by simp) ⟨base, 171, w, H, β, hI, []⟩ rfl _ _ rfl ?_)
        intro k g hk
        refine wk (wA hk wT) (wA ((TnM.mk (id := 31) (n := 21))) (wA DrM.mk wT)) ?_
        try simp only [bodyQ, go_sem, Nat.reduceBEq, Nat.reduceLT, Nat.reduceEqDiff, reduceIte, Nat.reduceAdd, Nat.reduceMul, Nat.reduceSub, Nat.reduceLeDiff, Int.reduceToNat, Int.reducePow, Int.reduceLT, Int.reduceEq, Int.reduceBEq, Int.reduceNeg, Nat.reducePow, List.reduceReplicate, Int.reduceLE]
        exact fin_tl18
      | false =>
        rw [if_neg (by simp)]
        refine ASpec.enter Tryz.func27 rfl (fun a w => Tryz.call27 a w) Tryz.ntmps27 Tryz.results27 fun base w β hI => ?_
        refine wk (wA h0 wT) (wA c1 (wA c2 (wA c3 (wA c4 (wA ca (wA ((TnM.mk (id := 31) (n := 21))) (wA DrM.mk wT))))))) ?_
        refine AWP.coe (tl18_emp (t := 28) (N := [_, _]) rfl rfl rfl rfl rfl) (tell18_last name 28 [] (by simp) ⟨base, 171, w, H, β, hI, []⟩ rfl _ _ rfl ?_)
        intro k g hk
        refine wk (wA hk wT) (wA ((TnM.mk (id := 31) (n := 21))) (wA DrM.mk wT)) ?_
        try simp only [bodyQ, go_sem, Nat.reduceBEq, Nat.reduceLT, Nat.reduceEqDiff, reduceIte, Nat.reduceAdd, Nat.reduceMul, Nat.reduceSub, Nat.reduceLeDiff, Int.reduceToNat, Int.reducePow, Int.reduceLT, Int.reduceEq, Int.reduceBEq, Int.reduceNeg, Nat.reducePow, List.reduceReplicate, Int.reduceLE]
        exact fin_tl18
    · rw [if_neg (fun h => h0 h.1)]
      refine ASpec.enter Tryz.func27 rfl (fun a w => Tryz.call27 a w) Tryz.ntmps27 Tryz.results27 fun base w β hI => ?_
      refine wk (wA h0 wT) (wA c1 (wA c2 (wA c3 (wA c4 (wA ca (wA ((TnM.mk (id := 31) (n := 21))) (wA DrM.mk wT))))))) ?_
      refine AWP.coe (tl18_emp (t := 28) (N := [_, _]) rfl rfl rfl rfl rfl) (tell18_last name 28 [] (by simp) ⟨base, 171, w, H, β, hI, []⟩ rfl _ _ rfl ?_)
      intro k g hk
      refine wk (wA hk wT) (wA ((TnM.mk (id := 31) (n := 21))) (wA DrM.mk wT)) ?_
      try simp only [bodyQ, go_sem, Nat.reduceBEq, Nat.reduceLT, Nat.reduceEqDiff, reduceIte, Nat.reduceAdd, Nat.reduceMul, Nat.reduceSub, Nat.reduceLeDiff, Int.reduceToNat, Int.reducePow, Int.reduceLT, Int.reduceEq, Int.reduceBEq, Int.reduceNeg, Nat.reducePow, List.reduceReplicate, Int.reduceLE]
      exact fin_tl18
  rw [if_neg (by omega)]
  clear ca
  by_cases h2 : t = 2
  · subst h2
    rw [if_pos rfl]
    cases q with
    | true =>
      cases wok with
      | true =>
        rw [if_pos (by simp)]
        refine ASpec.enter Tryz.func27 rfl (fun a w => Tryz.call27 a w) Tryz.ntmps27 Tryz.results27 fun base w β hI => ?_
        refine wk wT (wA c1 (wA c2 (wA c3 (wA c4 (wA c5 (wA ((TnM.mk (id := 31) (n := 21))) (wA DrM.mk wT))))))) ?_
        refine AWP.coe (tl18_sl (k := 2) (D := [W]) (t := 2) rfl rfl rfl rfl rfl rfl rfl rfl rfl) (tell18_last name 2 [W] (by simp) ⟨base, 171, w, H, β, hI, []⟩ rfl _ _ rfl ?_)
        intro k g hk
        refine wk (wA hk wT) (wA ((TnM.mk (id := 31) (n := 21))) (wA DrM.mk wT)) ?_
        try simp only [bodyQ, go_sem, Nat.reduceBEq, Nat.reduceLT, Nat.reduceEqDiff, reduceIte, Nat.reduceAdd, Nat.reduceMul, Nat.reduceSub, Nat.reduceLeDiff, Int.reduceToNat, Int.reducePow, Int.reduceLT, Int.reduceEq, Int.reduceBEq, Int.reduceNeg, Nat.reducePow, List.reduceReplicate, Int.reduceLE]
        exact fin_tl18
      | false =>
        rw [if_neg (by simp)]
        refine ASpec.enter Tryz.func27 rfl (fun a w => Tryz.call27 a w) Tryz.ntmps27 Tryz.results27 fun base w β hI => ?_
        refine wk wT (wA c1 (wA c2 (wA c3 (wA c4 (wA c5 (wA ((TnM.mk (id := 31) (n := 21))) (wA DrM.mk wT))))))) ?_
        refine AWP.coe (tl18_emp (t := 2) (N := [_, _]) rfl rfl rfl rfl rfl) (tell18_last name 2 [] (by simp) ⟨base, 171, w, H, β, hI, []⟩ rfl _ _ rfl ?_)
        intro k g hk
        refine wk (wA hk wT) (wA ((TnM.mk (id := 31) (n := 21))) (wA DrM.mk wT)) ?_
        try simp only [bodyQ, go_sem, Nat.reduceBEq, Nat.reduceLT, Nat.reduceEqDiff, reduceIte, Nat.reduceAdd, Nat.reduceMul, Nat.reduceSub, Nat.reduceLeDiff, Int.reduceToNat, Int.reducePow, Int.reduceLT, Int.reduceEq, Int.reduceBEq, Int.reduceNeg, Nat.reducePow, List.reduceReplicate, Int.reduceLE]
        exact fin_tl18
    | false =>
      rw [if_neg (by simp)]
      refine ASpec.enter Tryz.func27 rfl (fun a w => Tryz.call27 a w) Tryz.ntmps27 Tryz.results27 fun base w β hI => ?_
      refine wk wT (wA c1 (wA c2 (wA c3 (wA c4 (wA c5 (wA ((TnM.mk (id := 31) (n := 21))) (wA DrM.mk wT))))))) ?_
      refine AWP.coe (tl18_emp (t := 2) (N := [_, _]) rfl rfl rfl rfl rfl) (tell18_last name 2 [] (by simp) ⟨base, 171, w, H, β, hI, []⟩ rfl _ _ rfl ?_)
      intro k g hk
      refine wk (wA hk wT) (wA ((TnM.mk (id := 31) (n := 21))) (wA DrM.mk wT)) ?_
      try simp only [bodyQ, go_sem, Nat.reduceBEq, Nat.reduceLT, Nat.reduceEqDiff, reduceIte, Nat.reduceAdd, Nat.reduceMul, Nat.reduceSub, Nat.reduceLeDiff, Int.reduceToNat, Int.reducePow, Int.reduceLT, Int.reduceEq, Int.reduceBEq, Int.reduceNeg, Nat.reducePow, List.reduceReplicate, Int.reduceLE]
      exact fin_tl18
  rw [if_neg h2]
  by_cases h6 : t = 6
  · subst h6
    rw [if_pos rfl]
    cases q with
    | true =>
      cases sok with
      | true =>
        rw [if_pos (by simp)]
        refine ASpec.enter Tryz.func27 rfl (fun a w => Tryz.call27 a w) Tryz.ntmps27 Tryz.results27 fun base w β hI => ?_
        refine wk wT (wA c1 (wA c2 (wA c3 (wA c4 (wA c5 (wA ((TnM.mk (id := 31) (n := 21))) (wA DrM.mk wT))))))) ?_
        refine AWP.coe (tl18_sl (k := 2) (D := [so]) (t := 6) rfl rfl rfl rfl rfl rfl rfl rfl rfl) (tell18_last name 6 [so] (by simp) ⟨base, 171, w, H, β, hI, []⟩ rfl _ _ rfl ?_)
        intro k g hk
        refine wk (wA hk wT) (wA ((TnM.mk (id := 31) (n := 21))) (wA DrM.mk wT)) ?_
        try simp only [bodyQ, go_sem, Nat.reduceBEq, Nat.reduceLT, Nat.reduceEqDiff, reduceIte, Nat.reduceAdd, Nat.reduceMul, Nat.reduceSub, Nat.reduceLeDiff, Int.reduceToNat, Int.reducePow, Int.reduceLT, Int.reduceEq, Int.reduceBEq, Int.reduceNeg, Nat.reducePow, List.reduceReplicate, Int.reduceLE]
        exact fin_tl18
      | false =>
        rw [if_neg (by simp)]
        refine ASpec.enter Tryz.func27 rfl (fun a w => Tryz.call27 a w) Tryz.ntmps27 Tryz.results27 fun base w β hI => ?_
        refine wk wT (wA c1 (wA c2 (wA c3 (wA c4 (wA c5 (wA ((TnM.mk (id := 31) (n := 21))) (wA DrM.mk wT))))))) ?_
        refine AWP.coe (tl18_emp (t := 6) (N := [_, _]) rfl rfl rfl rfl rfl) (tell18_last name 6 [] (by simp) ⟨base, 171, w, H, β, hI, []⟩ rfl _ _ rfl ?_)
        intro k g hk
        refine wk (wA hk wT) (wA ((TnM.mk (id := 31) (n := 21))) (wA DrM.mk wT)) ?_
        try simp only [bodyQ, go_sem, Nat.reduceBEq, Nat.reduceLT, Nat.reduceEqDiff, reduceIte, Nat.reduceAdd, Nat.reduceMul, Nat.reduceSub, Nat.reduceLeDiff, Int.reduceToNat, Int.reducePow, Int.reduceLT, Int.reduceEq, Int.reduceBEq, Int.reduceNeg, Nat.reducePow, List.reduceReplicate, Int.reduceLE]
        exact fin_tl18
    | false =>
      rw [if_neg (by simp)]
      refine ASpec.enter Tryz.func27 rfl (fun a w => Tryz.call27 a w) Tryz.ntmps27 Tryz.results27 fun base w β hI => ?_
      refine wk wT (wA c1 (wA c2 (wA c3 (wA c4 (wA c5 (wA ((TnM.mk (id := 31) (n := 21))) (wA DrM.mk wT))))))) ?_
      refine AWP.coe (tl18_emp (t := 6) (N := [_, _]) rfl rfl rfl rfl rfl) (tell18_last name 6 [] (by simp) ⟨base, 171, w, H, β, hI, []⟩ rfl _ _ rfl ?_)
      intro k g hk
      refine wk (wA hk wT) (wA ((TnM.mk (id := 31) (n := 21))) (wA DrM.mk wT)) ?_
      try simp only [bodyQ, go_sem, Nat.reduceBEq, Nat.reduceLT, Nat.reduceEqDiff, reduceIte, Nat.reduceAdd, Nat.reduceMul, Nat.reduceSub, Nat.reduceLeDiff, Int.reduceToNat, Int.reducePow, Int.reduceLT, Int.reduceEq, Int.reduceBEq, Int.reduceNeg, Nat.reducePow, List.reduceReplicate, Int.reduceLE]
      exact fin_tl18
  rw [if_neg h6, if_neg ht]
  refine ASpec.enter Tryz.func27 rfl (fun a w => Tryz.call27 a w) Tryz.ntmps27 Tryz.results27 fun base w β hI => ?_
  refine wk (wA h1 (wA h28 (wA h2 (wA h6 (wA ht wT))))) (wA c1 (wA c2 (wA c3 (wA c4 (wA ((TnM.mk (id := 31) (n := 21))) (wA DrM.mk wT)))))) ?_
  refine AWP.coe (tl18_emp (t := t) (N := [_, _]) rfl rfl rfl rfl rfl) (tell18_last name t [] (by simp) ⟨base, 171, w, H, β, hI, []⟩ rfl _ _ rfl ?_)
  intro k g hk
  refine wk (wA hk wT) (wA ((TnM.mk (id := 31) (n := 21))) (wA DrM.mk wT)) ?_
  try simp only [bodyQ, go_sem, Nat.reduceBEq, Nat.reduceLT, Nat.reduceEqDiff, reduceIte, Nat.reduceAdd, Nat.reduceMul, Nat.reduceSub, Nat.reduceLeDiff, Int.reduceToNat, Int.reducePow, Int.reduceLT, Int.reduceEq, Int.reduceBEq, Int.reduceNeg, Nat.reducePow, List.reduceReplicate, Int.reduceLE]
  exact fin_tl18

end Go.Proofs.YtnlmdeeadldgmaaGreatDoor.VL

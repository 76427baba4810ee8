/- Layer 18: hosts, offers, who counts, which names there are. -/
import Derived.Test.YtnlmdeeadldgmaaGreatDoorZG31
import Derived.Test.YtnlmdeeadldgmaaGreatDoorZG32
import Derived.Test.YtnlmdeeadldgmaaGreatDoorZVLWalk
import Derived.Test.YtnlmdeeadldgmaaGreatDoorZG28
import Derived.Test.YtnlmdeeadldgmaaGreatDoorZG21
import Derived.Test.YtnlmdeeadldgmaaGreatDoorZG22
import Derived.Test.YtnlmdeeadldgmaaGreatDoorZG16
-- STEPWISE
-- WK
set_option linter.unusedVariables false
set_option linter.unusedSimpArgs false
set_option maxRecDepth 10000
namespace Go.Proofs.YtnlmdeeadldgmaaGreatDoor.VL
open Go Go.RowKit Go.Lib

theorem zbox (H N : List Box) (i : Nat) {x : Box} (h : N[i]? = some x) : (H ++ N)[H.length + i]? = some x := by
  rw [List.getElem?_append_right (by omega), Nat.add_sub_cancel_left]; exact h
theorem chunk_app (sz : Nat) : ∀ (k : Nat) (A B : List AV), k * sz ≤ A.length → chunk sz k (A ++ B) = chunk sz k A
  | 0, _, _, _ => rfl
  | k + 1, A, B, h => by
    rw [Nat.succ_mul] at h
    rw [chunk, chunk, List.take_append_of_le_length (by omega), List.drop_append_of_le_length (by omega), chunk_app sz k _ _ (by rw [List.length_drop]; omega)]
/-- What a walk takes of sizes. -/
structure NdIn (x : Nd) : Prop where
  a : x.s.a.length ≤ 1048576
  s : ∀ e ∈ x.s.a, e.s.length ≤ 1099511627776
structure ScIn (s : Sc) : Prop where
  v : s.v.length ≤ 1048576
  n : ∀ x ∈ s.v, NdIn x
  a : s.a.length ≤ 1048576
  d : s.d.length ≤ 1048576
theorem ScIn.c {s : Sc} (h : ScIn s) {x : Nd} (hx : x ∈ cntL s) : NdIn x := h.n x (cntL_mem hx).1
theorem allS_ok {es : List En} {v : Sv} (h : v ∈ allS es) : svOk v = true := by
  unfold allS prs at h
  rw [List.mem_map] at h
  obtain ⟨p, hp, rfl⟩ := h
  obtain ⟨x, _, hx⟩ := List.mem_filterMap.1 hp
  split at hx
  · rename_i hc
    injection hx with hx
    subst hx
    exact (enc_dec hc.2).1
  · cases hx
theorem allS_len {es : List En} {v : Sv} (h : v ∈ allS es) : v.n.length ≤ 20 ∧ v.p.length ≤ 20 := by
  have := allS_ok h
  unfold svOk at this
  simp only [Bool.and_eq_true] at this
  exact ⟨(wordOk_len this.1).2, (wordOk_len this.2.1).2⟩

theorem itoa_spec (n : Int) (h0 : 0 ≤ n) (h8 : n < 8) (H : List Box) : ASpec Tryz.prog 96 [vi n] H (Gives (vs [UInt8.ofNat (48 + n.toNat)]) H) := by
  have hs : ∀ H, ASpec Tryz.prog 148 [vi n] H (Gives (vs [UInt8.ofNat (48 + n.toNat)]) H) := fun H => by
    have hc : n = 0 ∨ n = 1 ∨ n = 2 ∨ n = 3 ∨ n = 4 ∨ n = 5 ∨ n = 6 ∨ n = 7 := by omega
    rcases hc with rfl | rfl | rfl | rfl | rfl | rfl | rfl | rfl
    all_goals
      refine ASpec.enter Tryz.func148 rfl (fun a w => Tryz.call148 a w) Tryz.ntmps148 Tryz.results148 fun base w β hI => ?_
      refine wk wT (wA DrM.mk wT) ?_
      refine wkEnd wT ?_
      exact Fin.same ⟨rfl, rfl⟩
  have hf : ∀ H, ASpec Tryz.prog 134 [vi n, vi 10] H (Gives (vs [UInt8.ofNat (48 + n.toNat)]) H) := fun H => by
    have h1 : n < 100 := by omega
    generalize [UInt8.ofNat (48 + n.toNat)] = r at *
    refine ASpec.enter Tryz.func134 rfl (fun a w => Tryz.call134 a w) Tryz.ntmps134 Tryz.results134 fun base w β hI => ?_
    refine wk (wA h0 (wA h1 wT)) (wA hs (wA DrM.mk wT)) ?_
    refine wkEnd wT ?_
    exact Fin.same ⟨rfl, rfl⟩
  generalize [UInt8.ofNat (48 + n.toNat)] = r at *
  refine ASpec.enter Tryz.func96 rfl (fun a w => Tryz.call96 a w) Tryz.ntmps96 Tryz.results96 fun base w β hI => ?_
  refine wk wT (wA hf (wA DrM.mk wT)) ?_
  refine wkEnd wT ?_
  exact Fin.same ⟨rfl, rfl⟩
theorem itoaS_spec (n : Int) (h0 : 0 ≤ n) (h8 : n < 8) (H : List Box) : ASpec Tryz.prog 53 [vi n] H (Gives (vs [UInt8.ofNat (48 + n.toNat)]) H) := by
  have hf := fun H => itoa_spec n h0 h8 H
  generalize [UInt8.ofNat (48 + n.toNat)] = r at *
  refine ASpec.enter Tryz.func53 rfl (fun a w => Tryz.call53 a w) Tryz.ntmps53 Tryz.results53 fun base w β hI => ?_
  refine wk wT (wA hf (wA DrM.mk wT)) ?_
  refine wkEnd wT ?_
  exact Fin.same ⟨rfl, rfl⟩

theorem host_spec (s : Sc) (n : Int) (hd : s.d.length ≤ 9223372036854775807) (H : List Box) : ASpec Tryz.prog 16 [.agg (scC s), vi n] H (Gives (.tup [vs (hostN s.d n).1, vb (hostN s.d n).2]) H) := by
  unfold hostN
  by_cases h0 : n < 0
  · rw [if_neg (by omega)]
    obtain ⟨v, a, d⟩ := s
    refine ASpec.enter Tryz.func16 rfl (fun a w => Tryz.call16 a w) Tryz.ntmps16 Tryz.results16 fun base w β hI => ?_
    refine wk (wA h0 wT) (wA DrM.mk wT) ?_
    refine wkEnd wT ?_
    exact Fin.cut (ltVV _ _) ⟨rfl, rfl⟩
  by_cases h8 : 8 ≤ n
  · rw [if_neg (by omega)]
    obtain ⟨v, a, d⟩ := s
    refine ASpec.enter Tryz.func16 rfl (fun a w => Tryz.call16 a w) Tryz.ntmps16 Tryz.results16 fun base w β hI => ?_
    refine wk (wA h0 (wA h8 wT)) (wA DrM.mk wT) ?_
    refine wkEnd wT ?_
    exact Fin.cut (ltVV _ _) ⟨rfl, rfl⟩
  rw [if_pos (by omega)]
  have hi := fun H => itoaS_spec n (by omega) (by omega) H
  have hw : ∀ H, ASpec Tryz.prog 52 [.agg (scC s), .lst 1 [[vs (digN n)]]] H (Gives (.tup [vs (winN s.d [digN n]).1, vb (winN s.d [digN n]).2]) H) := fun H => zwithin_spec s [digN n] hd (by simp) (by simp) (by simp [lenS, digN]) H
  have hdg : ([110] : List UInt8) ++ [UInt8.ofNat (48 + n.toNat)] = digN n := rfl
  have hdl : [UInt8.ofNat (48 + n.toNat)].length = 1 := rfl
  generalize [UInt8.ofNat (48 + n.toNat)] = dd at *
  generalize digN n = D at *
  generalize winN s.d [D] = W at *
  obtain ⟨v, a, d⟩ := s
  refine ASpec.enter Tryz.func16 rfl (fun a w => Tryz.call16 a w) Tryz.ntmps16 Tryz.results16 fun base w β hI => ?_
  refine wk (wA h0 (wA h8 (wA strApp (wA hdg wT)))) (wA hi (wA hw (wA DrM.mk wT))) ?_
  refine wkEnd wT ?_
  exact Fin.cut (ltVV _ _) ⟨rfl, rfl⟩

theorem hosts_spec (s : Sc) (x : Nd) (name : List UInt8) (hd : s.d.length ≤ 9223372036854775807) (hn : name.length ≤ 9223372036854775807) (H : List Box) :
    ASpec Tryz.prog 62 [.agg (scC s), .agg (ndC x), vs name] H (Gives (vb (hosts s.d x name)) H) := by
  have hh := fun H => host_spec s x.n hd H
  have hle : (hostN s.d x.n).1.length ≤ 255 := by
    unfold hostN
    split
    · exact winN_len _ _
    · simp
  unfold hosts
  have hs := fun H => labSame_spec (hostN s.d x.n).1 name (by omega) hn H
  generalize hostN s.d x.n = h at *
  obtain ⟨h, ok⟩ := h
  obtain ⟨v, a, d⟩ := s
  obtain ⟨n, ⟨g, b, ap⟩⟩ := x
  dsimp only at *
  generalize sameN h name = q at *
  cases ok with
  | false =>
    refine ASpec.enter Tryz.func62 rfl (fun a w => Tryz.call62 a w) Tryz.ntmps62 Tryz.results62 fun base w β hI => ?_
    refine wk wT (wA hh (wA DrM.mk wT)) ?_
    refine wkEnd wT ?_
    exact Fin.cut (.v _) ⟨rfl, rfl⟩
  | true =>
    refine ASpec.enter Tryz.func62 rfl (fun a w => Tryz.call62 a w) Tryz.ntmps62 Tryz.results62 fun base w β hI => ?_
    refine wk wT (wA hh (wA hs (wA DrM.mk wT))) ?_
    refine wkEnd wT ?_
    exact Fin.cut (.v _) ⟨rfl, rfl⟩

theorem offers1_spec (s : Sc) (name : List UInt8) (x : Sv) (hd : s.d.length ≤ 9223372036854775807) (hn : name.length ≤ 9223372036854775807) (hx : x.n.length ≤ 20 ∧ x.p.length ≤ 20) (b1 b2 : Nat) (H : List Box) (h1 : H[b1]? = some ⟨scC s, 0, 0, false⟩) (h2 : H[b2]? = some ⟨[vs name], 0, 0, false⟩) :
    ASpec Tryz.prog 107 [.agg (svC x), .ptr b1 0 0, .ptr b2 0 0] H (Gives (vb (!offF s.d name x)) H) := by
  have h1' := fun N : List Box => (List.getElem?_append_left (l₂ := N) (List.getElem?_eq_some_iff.1 h1).1).trans h1
  have h2' := fun N : List Box => (List.getElem?_append_left (l₂ := N) (List.getElem?_eq_some_iff.1 h2).1).trans h2
  have hw : ∀ H, ASpec Tryz.prog 52 [.agg (scC s), .lst 1 [[vs (95 :: x.n)], [vs (95 :: x.p)]]] H (Gives (.tup [vs (winN s.d [95 :: x.n, 95 :: x.p]).1, vb (winN s.d [95 :: x.n, 95 :: x.p]).2]) H) := fun H => zwithin_spec s [95 :: x.n, 95 :: x.p] hd (by simp) (by simp) (by simp [lenS]; omega) H
  have hle := winN_len s.d [95 :: x.n, 95 :: x.p]
  have hs := fun H => labSame_spec (winN s.d [95 :: x.n, 95 :: x.p]).1 name (by omega) hn H
  unfold offF
  generalize winN s.d [95 :: x.n, 95 :: x.p] = W at *
  obtain ⟨W, ok⟩ := W
  obtain ⟨v, a, d⟩ := s
  obtain ⟨xn, xp, xo, xi, xw, xl⟩ := x
  dsimp only at *
  have e1 : ([95] : List UInt8) ++ xn = 95 :: xn := rfl
  have e2 : ([95] : List UInt8) ++ xp = 95 :: xp := rfl
  generalize (95 : UInt8) :: xn = y1 at *
  generalize (95 : UInt8) :: xp = y2 at *
  generalize sameN W name = q at *
  cases ok with
  | false =>
    refine ASpec.enter Tryz.func107 rfl (fun a w => Tryz.call107 a w) Tryz.ntmps107 Tryz.results107 fun base w β hI => ?_
    refine wk (wA h1' (wA h2' (wA strApp (wA e1 (wA e2 wT))))) (wA hw (wA DrM.mk wT)) ?_
    refine wkEnd wT ?_
    exact Fin.cut (.v _) ⟨rfl, rfl⟩
  | true =>
    cases xl with
    | false =>
      refine ASpec.enter Tryz.func107 rfl (fun a w => Tryz.call107 a w) Tryz.ntmps107 Tryz.results107 fun base w β hI => ?_
      refine wk (wA h1' (wA h2' (wA strApp (wA e1 (wA e2 wT))))) (wA hw (wA DrM.mk wT)) ?_
      refine wkEnd wT ?_
      exact Fin.cut (.v _) ⟨rfl, rfl⟩
    | true =>
      refine ASpec.enter Tryz.func107 rfl (fun a w => Tryz.call107 a w) Tryz.ntmps107 Tryz.results107 fun base w β hI => ?_
      refine wk (wA h1' (wA h2' (wA strApp (wA e1 (wA e2 wT))))) (wA hw (wA hs (wA DrM.mk wT))) ?_
      refine wkEnd wT ?_
      exact Fin.cut (.v _) ⟨rfl, rfl⟩

theorem offers_spec (s : Sc) (x : Nd) (name : List UInt8) (hd : s.d.length ≤ 9223372036854775807) (hn : name.length ≤ 9223372036854775807) (hx : NdIn x) (H : List Box) :
    ASpec Tryz.prog 63 [.agg (scC s), .agg (ndC x), vs name] H (Gives (.lst 6 (svG (offL s.d x name))) H) := by
  have hal := fun H => svAllO_spec x.s.a hx.a hx.s H
  have hlen : (allS x.s.a).length ≤ 1048576 := by
    have := prs_len x.s.a
    have := hx.a
    unfold allS
    rw [List.length_map]; omega
  have hde : ∀ nb, ASpec Tryz.prog 105 [.sl (H.length + 3) 1 0 (allS x.s.a).length 6 false, .fn 107 [.ptr H.length 0 0, .ptr (H.length + 2) 0 0]] (H ++ [⟨scC s, 0, 0, false⟩, nb, ⟨[vs name], 0, 0, false⟩, ⟨svF (allS x.s.a), 0, 1, true⟩])
      (fun o H' => o = .ret (.sl (H.length + 3) 1 0 (offL s.d x name).length 6 false) ∧ H' = H ++ [⟨scC s, 0, 0, false⟩, nb, ⟨[vs name], 0, 0, false⟩, ⟨svF (offL s.d x name) ++ zrs [vs [], vs [], vi 0, vi 0, vi 0, vb false] ((allS x.s.a).length - (offL s.d x name).length), 0, 1, true⟩]) := fun nb => by
    have h := delOSv_spec (fun v => !offF s.d name v) 107 [.ptr H.length 0 0, .ptr (H.length + 2) 0 0] (allS x.s.a) hlen (H.length + 3) 1 (H ++ [⟨scC s, 0, 0, false⟩, nb, ⟨[vs name], 0, 0, false⟩, ⟨svF (allS x.s.a), 0, 1, true⟩])
      (fun i c hi => by rcases i with _ | _ | i <;> simp at hi <;> subst hi <;> exact .ptr _ _ _ (by simp <;> omega)) (zbox _ _ 3 rfl)
      (fun v hv H' hk => offers1_spec s name v hd hn (allS_len hv) H.length (H.length + 2) H' (hk _ _ (by omega) (zbox _ _ 0 rfl)) (hk _ _ (by omega) (zbox _ _ 2 rfl)))
    have hfl : ((allS x.s.a).filter fun v => !(!offF s.d name v)) = offL s.d x name := by simp [offL]
    rw [hfl, List.set_append_right _ _ (by omega), Nat.add_sub_cancel_left] at h
    exact h
  have hol : (offL s.d x name).length ≤ (allS x.s.a).length := List.length_filter_le _ _
  have hsf := svF_length (offL s.d x name)
  generalize offL s.d x name = O at *
  obtain ⟨v, a, d⟩ := s
  obtain ⟨n, ⟨g, b, ap⟩⟩ := x
  dsimp only at *
  generalize allS ap = A at *
  refine ASpec.enter Tryz.func63 rfl (fun a w => Tryz.call63 a w) Tryz.ntmps63 Tryz.results63 fun base w β hI => ?_
  refine wk wT (wA hal (wA hde (wA DrM.mk wT))) ?_
  refine wkEnd wT ?_
  exact Fin.frozG (G := svG O) (b := H.length + 3) (zbox _ _ 3 rfl) (Nat.le_add_right _ _) rfl (by dsimp only; rw [List.length_append, hsf]; omega) (by dsimp only; rw [chunk_app _ _ _ _ (by rw [hsf]; omega)]; exact chunk_svF O) (fun w H β v hx hr => hx v hr) (lt_sv _) ⟨rfl, rfl⟩

theorem counted1_spec (s : Sc) (x : Nd) (hv : s.a.length ≤ 9223372036854775807) (hx : x.s.a.length ≤ 9223372036854775807) (b1 : Nat) (H : List Box) (h1 : H[b1]? = some ⟨scC s, 0, 0, false⟩) :
    ASpec Tryz.prog 100 [.agg (ndC x), .ptr b1 0 0] H (Gives (vb (!(s.a.contains x.n && upE x.s.a))) H) := by
  have h1' := fun N : List Box => (List.getElem?_append_left (l₂ := N) (List.getElem?_eq_some_iff.1 h1).1).trans h1
  have hc := fun H => hasInt_spec s.a x.n hv H
  have hu := fun H => svUp_spec x.s.a hx H
  obtain ⟨v, a, d⟩ := s
  obtain ⟨n, ⟨g, b, ap⟩⟩ := x
  dsimp only at *
  generalize a.contains n = q at *
  generalize upE ap = u at *
  cases q with
  | false =>
    refine ASpec.enter Tryz.func100 rfl (fun a w => Tryz.call100 a w) Tryz.ntmps100 Tryz.results100 fun base w β hI => ?_
    refine wk (wA h1' wT) (wA hc (wA DrM.mk wT)) ?_
    refine wkEnd wT ?_
    exact Fin.cut (.v _) ⟨rfl, rfl⟩
  | true =>
    refine ASpec.enter Tryz.func100 rfl (fun a w => Tryz.call100 a w) Tryz.ntmps100 Tryz.results100 fun base w β hI => ?_
    refine wk (wA h1' wT) (wA hc (wA hu (wA DrM.mk wT))) ?_
    refine wkEnd wT ?_
    exact Fin.cut (.v _) ⟨rfl, rfl⟩

theorem counted_spec (s : Sc) (hs : ScIn s) (H : List Box) : ASpec Tryz.prog 58 [.agg (scC s)] H (Gives (.lst 4 (ndG (cntL s))) H) := by
  have ha := hs.a
  have hcl := fun H => cloneNd_spec s.v hs.v H
  have hde : ASpec Tryz.prog 98 [.sl (H.length + 1) 0 0 s.v.length 4 false, .fn 100 [.ptr H.length 0 0]] (H ++ [⟨scC s, 0, 0, false⟩, ⟨ndF s.v, 0, 0, true⟩])
      (fun o H' => o = .ret (.sl (H.length + 1) 0 0 (cntL s).length 4 false) ∧ H' = H ++ [⟨scC s, 0, 0, false⟩, ⟨ndF (cntL s) ++ zrs [vi 0, vi 0, vi 0, .emp] (s.v.length - (cntL s).length), 0, 0, true⟩]) := by
    have h := delONd_spec (fun x => !(s.a.contains x.n && upE x.s.a)) 100 [.ptr H.length 0 0] s.v hs.v (H.length + 1) 0 (H ++ [⟨scC s, 0, 0, false⟩, ⟨ndF s.v, 0, 0, true⟩])
      (fun i c hi => by rcases i with _ | i <;> simp at hi <;> subst hi <;> exact .ptr _ _ _ (by simp <;> omega)) (zbox _ _ 1 rfl)
      (fun x hx H' hk => counted1_spec s x (by omega) (by have := (hs.n x hx).a; omega) H.length H' (hk _ _ (by omega) (zbox _ _ 0 rfl)))
    have hfl : (s.v.filter fun x => !(!(s.a.contains x.n && upE x.s.a))) = cntL s := by simp [cntL]
    rw [hfl, List.set_append_right _ _ (by omega), Nat.add_sub_cancel_left] at h
    exact h
  have hol : (cntL s).length ≤ s.v.length := List.length_filter_le _ _
  have hsf := ndF_length (cntL s)
  generalize cntL s = O at *
  clear hs ha
  obtain ⟨v, a, d⟩ := s
  dsimp only at *
  refine ASpec.enter Tryz.func58 rfl (fun a w => Tryz.call58 a w) Tryz.ntmps58 Tryz.results58 fun base w β hI => ?_
  refine wk wT (wA hcl (wA hde (wA DrM.mk wT))) ?_
  refine wkEnd wT ?_
  exact Fin.frozG (G := ndG O) (b := H.length + 1) (zbox _ _ 1 rfl) (Nat.le_add_right _ _) rfl (by dsimp only; rw [List.length_append, hsf]; omega) (by dsimp only; rw [chunk_app _ _ _ _ (by rw [hsf]; omega)]; exact chunk_ndF O) (fun w H β v hx hr => hx v hr) (lt_nd _) ⟨rfl, rfl⟩

theorem exists1_spec (s : Sc) (name : List UInt8) (x : Nd) (hd : s.d.length ≤ 9223372036854775807) (hn : name.length ≤ 9223372036854775807) (hx : NdIn x) (b1 b2 : Nat) (H : List Box) (h1 : H[b1]? = some ⟨scC s, 0, 0, false⟩) (h2 : H[b2]? = some ⟨[vs name], 0, 0, false⟩) :
    ASpec Tryz.prog 61 [.agg (ndC x), .ptr b1 0 0, .ptr b2 0 0] H (Gives (vb (hosts s.d x name || !(offL s.d x name).isEmpty)) H) := by
  have h1' := fun N : List Box => (List.getElem?_append_left (l₂ := N) (List.getElem?_eq_some_iff.1 h1).1).trans h1
  have h2' := fun N : List Box => (List.getElem?_append_left (l₂ := N) (List.getElem?_eq_some_iff.1 h2).1).trans h2
  have hh := fun H => hosts_spec s x name hd hn H
  have ho := fun H => offers_spec s x name hd hn hx H
  have hol : (offL s.d x name).length ≤ 1048576 := by
    have := prs_len x.s.a
    have := hx.a
    have : (offL s.d x name).length ≤ (allS x.s.a).length := List.length_filter_le _ _
    unfold allS at this
    rw [List.length_map] at this; omega
  generalize offL s.d x name = O at *
  generalize hosts s.d x name = q at *
  obtain ⟨v, a, d⟩ := s
  obtain ⟨n, ⟨g, b, ap⟩⟩ := x
  dsimp only at *
  cases q with
  | true =>
    refine ASpec.enter Tryz.func61 rfl (fun a w => Tryz.call61 a w) Tryz.ntmps61 Tryz.results61 fun base w β hI => ?_
    refine wk (wA h1' (wA h2' wT)) (wA hh (wA DrM.mk wT)) ?_
    refine wkEnd wT ?_
    exact Fin.cut (.v _) ⟨rfl, rfl⟩
  | false =>
    have he : (0 < (O.length : Int)) = ((!O.isEmpty) = true) := by cases O <;> simp
    refine ASpec.enter Tryz.func61 rfl (fun a w => Tryz.call61 a w) Tryz.ntmps61 Tryz.results61 fun base w β hI => ?_
    refine wk (wA h1' (wA h2' wT)) (wA hh (wA ho (wA DrM.mk wT))) ?_
    refine wkEnd wT ?_
    refine Fin.cut (.v _) ⟨?_, rfl⟩
    cases O <;> simp

theorem exists_spec (s : Sc) (name : List UInt8) (hs : ScIn s) (hn : name.length ≤ 9223372036854775807) (H : List Box) : ASpec Tryz.prog 23 [.agg (scC s), vs name] H (Gives (vb (existsN s name)) H) := by
  have hd := hs.d
  have hsm := fun H => labSame_spec name s.d hn (by omega) H
  have hc := fun H => counted_spec s hs H
  have hcl : (cntL s).length ≤ 1048576 := by
    have : (cntL s).length ≤ s.v.length := List.length_filter_le _ _
    have := hs.v
    omega
  have hcf := coFNd_spec (fun x => hosts s.d x name || !(offL s.d x name).isEmpty) 61 [.ptr H.length 0 0, .ptr (H.length + 1) 0 0] (cntL s) (by omega) (H ++ [⟨scC s, 0, 0, false⟩, ⟨[vs name], 0, 0, false⟩])
    (fun x hx => exists1_spec s name x (by omega) hn (hs.c hx) H.length (H.length + 1) _ (zbox _ _ 0 rfl) (zbox _ _ 1 rfl))
  unfold existsN
  generalize (cntL s).any (fun x => hosts s.d x name || !(offL s.d x name).isEmpty) = r at *
  generalize cntL s = C at *
  generalize sameN name s.d = q at *
  clear hs
  obtain ⟨v, a, d⟩ := s
  dsimp only at *
  cases q with
  | true =>
    refine ASpec.enter Tryz.func23 rfl (fun a w => Tryz.call23 a w) Tryz.ntmps23 Tryz.results23 fun base w β hI => ?_
    refine wk wT (wA hsm (wA DrM.mk wT)) ?_
    refine wkEnd wT ?_
    exact Fin.cut (.v _) ⟨rfl, rfl⟩
  | false =>
    refine ASpec.enter Tryz.func23 rfl (fun a w => Tryz.call23 a w) Tryz.ntmps23 Tryz.results23 fun base w β hI => ?_
    refine wk wT (wA hsm (wA hc (wA hcf (wA DrM.mk wT)))) ?_
    refine wkEnd wT ?_
    exact Fin.cut (.v _) ⟨rfl, rfl⟩

end Go.Proofs.YtnlmdeeadldgmaaGreatDoor.VL

/- Layer 17: numbers and records behind bytes, as the program lays them. -/
-- STEPWISE
-- WK
-- TAIL
set_option linter.unusedVariables false
set_option linter.unusedSimpArgs false
set_option maxRecDepth 10000
namespace Go.Proofs.YtnlmdeeadldgmaaGreatDoor.VL
open Go Go.RowKit Go.Lib

/-- A number's lowest byte. -/
def b8 (n : Int) : UInt8 := UInt8.ofNat (n % 256).toNat
def two1 (n : Int) : List UInt8 := [b8 (n / 256), b8 n]
def twoB (l : List Int) : List UInt8 := l.flatMap two1
theorem wrap_b8 (n : Int) : IntKind.u8.wrap n = ((b8 n).toNat : Int) := by
  have hw : IntKind.u8.wrap n = n % 256 := by simp [IntKind.wrap, IntKind.bits, IntKind.signed]
  have h0 := Int.emod_nonneg n (show (256 : Int) ≠ 0 by decide)
  have h1 := Int.emod_lt_of_pos n (show (0 : Int) < 256 by decide)
  rw [hw, b8, UInt8.toNat_ofNat']
  omega
theorem twoB_length (l : List Int) : (twoB l).length = 2 * l.length := by
  induction l with
  | nil => rfl
  | cons a l ih =>
    have e : twoB (a :: l) = two1 a ++ twoB l := by simp [twoB]
    rw [e, List.length_append, ih, List.length_cons]
    simp [two1]
    omega
theorem twoB_snoc (l : List Int) (n : Int) : twoB (l ++ [n]) = twoB l ++ two1 n := by simp [twoB]

set_option maxHeartbeats 4000000 in
theorem two_loop (b g : Nat) (bs : List UInt8) (l : List Int) (hbs : bs.length ≤ 1099511627776) (hl : l.length ≤ 1048576) (Hx : List Box) (hb : Hx[b]? = some ⟨bytesC bs, 0, g, true⟩)
    (E : Ent) (hE : E.n = 23) (Q : AExit → ASt → Prop) (body : Code) (hbody : (Tryz.f110.body).bind firstLoop = some body)
    (hQ : ∀ k, lk k 0 = .sl b (g + l.length) 0 (bs ++ twoB l).length 1 false → Q (.exit 0) ⟨k, Hx.set b ⟨bytesC (bs ++ twoB l), 0, g + l.length, true⟩⟩) :
    AWP Tryz.prog E (.loop body) Q ⟨[(0, .sl b g 0 bs.length 1 false), (7, vI l), (8, vi l.length), (9, vi 0)], Hx⟩ := by
  have hbl : b < Hx.length := (List.getElem?_eq_some_iff.1 hb).1
  obtain ⟨base, n, w, H, β, hI, ds⟩ := E
  dsimp only at *
  subst hE
  dsimp only [firstLoop, Option.bind, Tryz.f110] at hbody
  injection hbody with hbody
  subst hbody
  refine AWP.loop (ι := {i : Nat // i ≤ l.length}) (fun p => ⟨[(0, .sl b (g + p.1) 0 (bs ++ twoB (l.take p.1)).length 1 false), (7, vI l), (8, vi l.length), (9, vi p.1)], Hx.set b ⟨bytesC (bs ++ twoB (l.take p.1)), 0, g + p.1, true⟩⟩) (fun p => l.length - p.1) ⟨0, Nat.zero_le _⟩ ?_ ?_
  · have e0 : bs ++ twoB (l.take 0) = bs := by simp [twoB]
    have e1 : Hx.set b ⟨bytesC bs, 0, g + 0, true⟩ = Hx := set_same' hb
    dsimp only
    rw [e0, e1]
    exact Coe.kp
  · rintro ⟨i, hi⟩
    dsimp only
    by_cases hc : (i : Int) < (l.length : Int)
    · have hg : l[i]? = some l[i] := List.getElem?_eq_getElem (by omega)
      generalize l[i] = n at hg
      have hsn := twoB_snoc (l.take i) n
      rw [← take_snoc hg] at hsn
      have hlen := twoB_length (l.take i)
      rw [List.length_take] at hlen
      have hd : n.fdiv 256 = n / 256 := Int.fdiv_eq_ediv_of_nonneg _ (by decide)
      have w1 := wrap_b8 (n / 256)
      have w2 := wrap_b8 n
      generalize hacc : bs ++ twoB (l.take i) = acc
      have hal : acc.length ≤ 1099513725000 := by rw [← hacc, List.length_append]; omega
      have e3 : bs ++ twoB (l.take (i + 1)) = acc ++ two1 n := by rw [hsn, ← List.append_assoc, hacc]
      have hbx : (Hx.set b ⟨bytesC acc, 0, g + i, true⟩)[b]? = some ⟨bytesC acc, 0, g + i, true⟩ := List.getElem?_set_self hbl
      refine wkL (wA hc (wA hg (wA hd (wA w1 (wA w2 (wA hbx wT)))))) (wA TlM.mk (wA DrM.mk wT)) ?_
      refine ⟨⟨i + 1, by omega⟩, ?_, by dsimp only; omega⟩
      dsimp only
      have e4 : bytesC (acc ++ two1 n) = bytesC acc ++ [.v (.int .u8 (b8 (n / 256)).toNat), .v (.int .u8 (b8 n).toNat)] := by simp [bytesC, two1]
      have e5 : (acc ++ two1 n).length = acc.length + 2 := by simp [two1]
      rw [e3, e4, e5, ← Nat.add_assoc]
      exact Coe.kp
    · have : i = l.length := by omega
      subst this
      rw [List.take_length]
      refine wk (wA hc wT) (wA TlM.mk (wA DrM.mk wT)) ?_
      exact hQ _ rfl
/-- Behind one's own bytes. -/
theorem two_spec (b g : Nat) (bs : List UInt8) (l : List Int) (hbs : bs.length ≤ 1099511627776) (hl : l.length ≤ 1048576) (H : List Box) (hb : H[b]? = some ⟨bytesC bs, 0, g, true⟩) :
    ASpec Tryz.prog 110 [.sl b g 0 bs.length 1 false, vI l] H (fun o H' => o = .ret (.sl b (g + l.length) 0 (bs ++ twoB l).length 1 false) ∧ H' = H.set b ⟨bytesC (bs ++ twoB l), 0, g + l.length, true⟩) := by
  refine ASpec.enter Tryz.func110 rfl (fun a w => Tryz.call110 a w) Tryz.ntmps110 Tryz.results110 fun base w β hI => ?_
  refine wk wT (wA TlM.mk (wA DrM.mk wT)) ?_
  refine AWP.coe ?_ (two_loop b g bs l hbs hl H hb _ rfl _ _ rfl ?_)
  · exact Coe.kp
  · intro k hk
    refine wk (wA hk wT) (wA TlM.mk (wA DrM.mk wT)) ?_
    refine wkEnd wT ?_
    exact ⟨_, _, Shed.refl _ _ _, rfl, rfl⟩
/-- Behind nothing. -/
theorem twoNil_spec (l : List Int) (hl : l.length ≤ 1048576) (H : List Box) :
    ASpec Tryz.prog 110 [.emp, vI l] H (fun o H' => o = .ret (.sl H.length l.length 0 (twoB l).length 1 false) ∧ H' = H ++ [⟨bytesC (twoB l), 0, l.length, true⟩]) := by
  refine ASpec.enter Tryz.func110 rfl (fun a w => Tryz.call110 a w) Tryz.ntmps110 Tryz.results110 fun base w β hI => ?_
  refine wk wT (wA TlM.mk (wA DrM.mk wT)) ?_
  refine AWP.coe (Coe.emp0 (t := 0) (sz := 1) (l' := [(0, .sl H.length 0 0 0 1 false), (7, vI l), (8, vi l.length), (9, vi 0)]) rfl ?_) ?_
  · simp only [Keeps, List.mem_cons, List.not_mem_nil, or_false, forall_eq_or_imp, forall_eq]
    exact ⟨rfl, rfl, rfl, rfl⟩
  · refine two_loop H.length 0 [] l (by simp) hl (H ++ [⟨[], 0, 0, true⟩]) (by simp [bytesC]) ⟨base, 23, w, H, β, hI, []⟩ rfl _ _ rfl ?_
    intro k hk
    rw [List.nil_append, Nat.zero_add] at hk
    have e : (H ++ [(⟨[], 0, 0, true⟩ : Box)]).set H.length ⟨bytesC ([] ++ twoB l), 0, 0 + l.length, true⟩ = H ++ [⟨bytesC (twoB l), 0, l.length, true⟩] := by
      rw [List.set_append_right _ _ (Nat.le_refl _), Nat.sub_self, List.nil_append, Nat.zero_add]; rfl
    rw [e]
    refine wk (wA hk wT) (wA TlM.mk (wA DrM.mk wT)) ?_
    refine wkEnd wT ?_
    exact ⟨_, _, Shed.refl _ _ _, rfl, rfl⟩

theorem clip_spec (b g : Nat) (n : Nat) (hn : n ≤ 1099511627776) (ful : Bool) (H : List Box) {bx : Box} (hb : H[b]? = some bx) (hg : bx.gen = g) :
    ASpec Tryz.prog 113 [.sl b g 0 n 1 ful] H (Gives (.sl b g 0 n 1 true) H) := by
  subst hg
  have hlv : live H b bx.gen = true := by simp [live, hb]
  refine ASpec.enter Tryz.func113 rfl (fun a w => Tryz.call113 a w) Tryz.ntmps113 Tryz.results113 fun base w β hI => ?_
  refine wk (wA hb (wA hlv wT)) (wA TlM.mk (wA DrM.mk wT)) ?_
  refine wkEnd wT ?_
  exact ⟨_, _, Shed.refl _ _ _, rfl, rfl⟩

end Go.Proofs.YtnlmdeeadldgmaaGreatDoor.VL

/- The value logic: a call whose first argument says less. -/
set_option linter.unusedVariables false
set_option linter.unusedSimpArgs false
namespace Go.Proofs.YtnlmdeeadldgmaaGreatDoor.VL
open Go Go.RowKit Go.Lib

theorem ASpec.weak0 {P : Program} {f : FuncId} {a a' : AV} {rest : List AV} {H : List Box} {K : Out → List Box → Prop} (hw : ∀ (w : World) (H : List Box) (β : Pl) (x : Value), Rep w H β a x → Rep w H β a' x) (h : ASpec P f (a' :: rest) H K) : ASpec P f (a :: rest) H K :=
  fun base w β vs hI hr => h base w β vs hI ⟨by simpa using hr.1, fun i c x hi hx => by
    rcases i with _ | i
    · simp at hi; subst hi; exact hw _ _ _ _ (hr.2 0 a x rfl hx)
    · exact hr.2 (i + 1) c x (by simpa using hi) hx⟩
theorem ASpec.weakH {P : Program} {f : FuncId} {a a' : AV} {rest : List AV} {H : List Box} {K : Out → List Box → Prop} (hw : ∀ (w : World) (β : Pl) (x : Value), Rep w H β a x → Rep w H β a' x) (h : ASpec P f (a' :: rest) H K) : ASpec P f (a :: rest) H K :=
  fun base w β vs hI hr => h base w β vs hI ⟨by simpa using hr.1, fun i c x hi hx => by
    rcases i with _ | i
    · simp at hi; subst hi; exact hw _ _ _ (hr.2 0 a x rfl hx)
    · exact hr.2 (i + 1) c x (by simpa using hi) hx⟩

end Go.Proofs.YtnlmdeeadldgmaaGreatDoor.VL

/- Layer 17: a number's bytes behind others, as the reference lays them. -/
-- STEPWISE
-- WK
set_option linter.unusedVariables false
set_option linter.unusedSimpArgs false
set_option maxRecDepth 10000
namespace Go.Proofs.YtnlmdeeadldgmaaGreatDoor.VL
open Go Go.RowKit Go.Lib

def layD (n : Int) : Nat → List UInt8
  | 0 => []
  | m + 1 => b8 (n / 2 ^ (8 * m)) :: layD n m
theorem layD_length (n : Int) : ∀ m, (layD n m).length = m
  | 0 => rfl
  | m + 1 => by rw [layD, List.length_cons, layD_length n m]
theorem layD_two (n : Int) : layD n 2 = two1 n := by simp [layD, two1]
theorem layD_four (n : Int) : layD n 4 = two1 (n / 65536) ++ two1 n := by
  simp only [layD, two1, List.cons_append, List.nil_append, List.cons.injEq, and_true]
  refine ⟨?_, ?_, ?_, ?_⟩ <;> congr 1
  · rw [Int.ediv_ediv_of_nonneg (by decide)]; rfl
  · simp
def ixm (m : Nat) : Int := match m with
  | 0 => -1
  | 1 => 0
  | 2 => 1
  | 3 => 2
  | _ => 3

set_option maxHeartbeats 4000000 in
theorem lay17_loop (b g : Nat) (bs : List UInt8) (n : Int) (s : Nat) (hbs : bs.length ≤ 1099511627776) (hs : s ≤ 4) (Hx : List Box) (hb : Hx[b]? = some ⟨bytesC bs, 0, g, true⟩)
    (E : Ent) (hE : E.n = 24) (Q : AExit → ASt → Prop) (body : Code) (hbody : (Tryz.f114.body).bind firstLoop = some body)
    (hQ : ∀ k, lk k 0 = .sl b (g + s) 0 (bs ++ layD n s).length 1 false → Q (.exit 0) ⟨k, Hx.set b ⟨bytesC (bs ++ layD n s), 0, g + s, true⟩⟩) :
    AWP Tryz.prog E (.loop body) Q ⟨[(0, .sl b g 0 bs.length 1 false), (1, vi n), (7, vi (ixm s))], Hx⟩ := by
  have hbl : b < Hx.length := (List.getElem?_eq_some_iff.1 hb).1
  obtain ⟨base, ne, w, H, β, hI, ds⟩ := E
  dsimp only at *
  subst hE
  dsimp only [firstLoop, Option.bind, Tryz.f114] at hbody
  injection hbody with hbody
  subst hbody
  have hdv : ∀ k : Nat, n.fdiv (2 ^ k) = n / 2 ^ k := fun k => Int.fdiv_eq_ediv_of_nonneg _ (by have := Int.pow_pos (n := 2) (m := k) (by decide); omega)
  refine AWP.loop (ι := {p : Nat × List UInt8 × Nat // p.2.1 ++ layD n p.1 = bs ++ layD n s ∧ p.2.2 + p.1 = g + s ∧ p.1 ≤ 4 ∧ p.2.1.length ≤ 1099511627776 + 4 - p.1}) (fun p => ⟨[(0, .sl b p.1.2.2 0 p.1.2.1.length 1 false), (1, vi n), (7, vi (ixm p.1.1))], Hx.set b ⟨bytesC p.1.2.1, 0, p.1.2.2, true⟩⟩) (fun p => p.1.1) ⟨(s, bs, g), rfl, rfl, hs, by dsimp only; omega⟩ ?_ ?_
  · have e1 : Hx.set b ⟨bytesC bs, 0, g, true⟩ = Hx := set_same' hb
    dsimp only
    rw [e1]
    exact Coe.kp
  · rintro ⟨⟨m, acc, g'⟩, h1, h2, h3, h4⟩
    dsimp only at h1 h2 h3 h4 ⊢
    have hbx : (Hx.set b ⟨bytesC acc, 0, g', true⟩)[b]? = some ⟨bytesC acc, 0, g', true⟩ := List.getElem?_set_self hbl
    have hrnd : ∀ c : UInt8, bytesC (acc ++ [c]) = bytesC acc ++ [.v (.int .u8 c.toNat)] := fun c => by simp [bytesC]
    have hrl : ∀ c : UInt8, (acc ++ [c]).length = acc.length + 1 := fun c => by simp
    rcases m with _ | _ | _ | _ | _ | m
    · have hg : g' = g + s := by omega
      rw [layD, List.append_nil] at h1
      subst h1
      subst hg
      dsimp only [ixm]
      refine wk wT (wA DrM.mk wT) ?_
      exact hQ _ rfl
    · dsimp only [ixm]
      have k1 : (8 : Int) * 0 = 0 := rfl
      have k2 : min 0 64 = 0 := rfl
      have k3 : n.fdiv 1 = n := by rw [Int.fdiv_eq_ediv_of_nonneg _ (by decide), Int.ediv_one]
      have k4 := wrap_b8 (n)
      have k6 : n / 2 ^ (8 * 0) = n := by simp
      have k5 : layD n (0 + 1) = b8 (n) :: layD n 0 := congrArg (fun z => b8 z :: layD n _) k6
      rw [k5, List.append_cons] at h1
      have hr := hrnd (b8 (n))
      have hl := hrl (b8 (n))
      refine wkL (wA hbx (wA k1 (wA k2 (wA k3 (wA k4 wT))))) (wA DrM.mk wT) ?_
      refine ⟨⟨(0, acc ++ [b8 (n)], g' + 1), h1, by dsimp only; omega, by dsimp only; omega, by dsimp only; rw [hl]; omega⟩, ?_, by dsimp only; omega⟩
      dsimp only [ixm]
      rw [hr, hl]
      exact Coe.kp
    · dsimp only [ixm]
      have k1 : (8 : Int) * 1 = 8 := rfl
      have k2 : min 8 64 = 8 := rfl
      have k3 : n.fdiv 256 = n / 256 := Int.fdiv_eq_ediv_of_nonneg _ (by decide)
      have k4 := wrap_b8 (n / 256)
      have k6 : n / 2 ^ (8 * 1) = n / 256 := by rfl
      have k5 : layD n (1 + 1) = b8 (n / 256) :: layD n 1 := congrArg (fun z => b8 z :: layD n _) k6
      rw [k5, List.append_cons] at h1
      have hr := hrnd (b8 (n / 256))
      have hl := hrl (b8 (n / 256))
      refine wkL (wA hbx (wA k1 (wA k2 (wA k3 (wA k4 wT))))) (wA DrM.mk wT) ?_
      refine ⟨⟨(1, acc ++ [b8 (n / 256)], g' + 1), h1, by dsimp only; omega, by dsimp only; omega, by dsimp only; rw [hl]; omega⟩, ?_, by dsimp only; omega⟩
      dsimp only [ixm]
      rw [hr, hl]
      exact Coe.kp
    · dsimp only [ixm]
      have k1 : (8 : Int) * 2 = 16 := rfl
      have k2 : min 16 64 = 16 := rfl
      have k3 : n.fdiv 65536 = n / 65536 := Int.fdiv_eq_ediv_of_nonneg _ (by decide)
      have k4 := wrap_b8 (n / 65536)
      have k6 : n / 2 ^ (8 * 2) = n / 65536 := by rfl
      have k5 : layD n (2 + 1) = b8 (n / 65536) :: layD n 2 := congrArg (fun z => b8 z :: layD n _) k6
      rw [k5, List.append_cons] at h1
      have hr := hrnd (b8 (n / 65536))
      have hl := hrl (b8 (n / 65536))
      refine wkL (wA hbx (wA k1 (wA k2 (wA k3 (wA k4 wT))))) (wA DrM.mk wT) ?_
      refine ⟨⟨(2, acc ++ [b8 (n / 65536)], g' + 1), h1, by dsimp only; omega, by dsimp only; omega, by dsimp only; rw [hl]; omega⟩, ?_, by dsimp only; omega⟩
      dsimp only [ixm]
      rw [hr, hl]
      exact Coe.kp
    · dsimp only [ixm]
      have k1 : (8 : Int) * 3 = 24 := rfl
      have k2 : min 24 64 = 24 := rfl
      have k3 : n.fdiv 16777216 = n / 16777216 := Int.fdiv_eq_ediv_of_nonneg _ (by decide)
      have k4 := wrap_b8 (n / 16777216)
      have k6 : n / 2 ^ (8 * 3) = n / 16777216 := by rfl
      have k5 : layD n (3 + 1) = b8 (n / 16777216) :: layD n 3 := congrArg (fun z => b8 z :: layD n _) k6
      rw [k5, List.append_cons] at h1
      have hr := hrnd (b8 (n / 16777216))
      have hl := hrl (b8 (n / 16777216))
      refine wkL (wA hbx (wA k1 (wA k2 (wA k3 (wA k4 wT))))) (wA DrM.mk wT) ?_
      refine ⟨⟨(3, acc ++ [b8 (n / 16777216)], g' + 1), h1, by dsimp only; omega, by dsimp only; omega, by dsimp only; rw [hl]; omega⟩, ?_, by dsimp only; omega⟩
      dsimp only [ixm]
      rw [hr, hl]
      exact Coe.kp
    · omega
/-- Behind one's own bytes. -/
theorem lay17_spec (b g : Nat) (bs : List UInt8) (n : Int) (s : Nat) (hbs : bs.length ≤ 1099511627776) (hs : s ≤ 4) (hs0 : 0 < s) (H : List Box) (hb : H[b]? = some ⟨bytesC bs, 0, g, true⟩) :
    ASpec Tryz.prog 114 [.sl b g 0 bs.length 1 false, vi n, vi s] H (fun o H' => o = .ret (.sl b (g + s) 0 (bs ++ layD n s).length 1 false) ∧ H' = H.set b ⟨bytesC (bs ++ layD n s), 0, g + s, true⟩) := by
  have hix : (s : Int) - 1 = ixm s := by
    rcases s with _ | _ | _ | _ | _ | s <;> first | omega | rfl
  refine ASpec.enter Tryz.func114 rfl (fun a w => Tryz.call114 a w) Tryz.ntmps114 Tryz.results114 fun base w β hI => ?_
  refine wk (wA hix wT) (wA DrM.mk wT) ?_
  refine AWP.coe ?_ (lay17_loop b g bs n s hbs hs H hb ⟨base, 24, w, H, β, hI, []⟩ rfl _ _ rfl ?_)
  · exact Coe.kp
  · intro k hk
    refine wk (wA hk wT) (wA DrM.mk wT) ?_
    refine wkEnd wT ?_
    exact ⟨_, _, Shed.refl _ _ _, rfl, rfl⟩
/-- Behind nothing, where an empty box stands. -/
theorem lay17E_spec (b : Nat) (n : Int) (s : Nat) (hs : s ≤ 4) (hs0 : 0 < s) (H : List Box) (hb : H[b]? = some ⟨[], 0, 0, true⟩) :
    ASpec Tryz.prog 114 [.emp, vi n, vi s] H (fun o H' => o = .ret (.sl b (0 + s) 0 (layD n s).length 1 false) ∧ H' = H.set b ⟨bytesC (layD n s), 0, 0 + s, true⟩) := by
  have h := lay17_spec b 0 [] n s (by simp) hs hs0 H (by simpa [bytesC] using hb)
  rw [List.nil_append] at h
  refine ASpec.weakH (fun w β x hx => ?_) h
  cases hx with
  | emp a => exact rep_sl (bx := ⟨[], 0, 0, true⟩) hb rfl ⟨a, 0, rfl, Nat.le_refl _, by simp, fun hh => absurd hh (by omega)⟩

end Go.Proofs.YtnlmdeeadldgmaaGreatDoor.VL

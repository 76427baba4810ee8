/- Layer 18: numbers of so many bytes each, as the program lays them. -/
import Derived.Test.YtnlmdeeadldgmaaGreatDoorZG33
import Derived.Test.YtnlmdeeadldgmaaGreatDoorZG21
import Derived.Test.YtnlmdeeadldgmaaGreatDoorZVLWalk
import Derived.Test.YtnlmdeeadldgmaaGreatDoorZG27
-- STEPWISE
-- WK
set_option linter.unusedVariables false
set_option linter.unusedSimpArgs false
set_option maxRecDepth 10000
namespace Go.Proofs.YtnlmdeeadldgmaaGreatDoor.VL
open Go Go.RowKit Go.Lib

theorem beK_layD (n : Int) : ∀ k, beK k n = layD n k
  | 0 => rfl
  | k + 1 => by rw [beK, layD, beK_layD n k, b8]
theorem bes_snoc (k : Nat) (l : List Int) (n : Int) : bes k (l ++ [n]) = bes k l ++ layD n k := by simp [bes, beK_layD]
theorem bes_length (k : Nat) (l : List Int) : (bes k l).length = k * l.length := by
  induction l with
  | nil => rfl
  | cons a l ih =>
    have e : bes k (a :: l) = beK k a ++ bes k l := by simp [bes]
    rw [e, List.length_append, ih, List.length_cons, beK_layD, layD_length, Nat.mul_succ]
    omega
theorem ixm_s {s : Nat} (h : s ≤ 4) : (s : Int) - 1 = ixm s := by
  rcases s with _ | _ | _ | _ | _ | s <;> first | omega | rfl

set_option maxHeartbeats 4000000 in
theorem numbers_spec (s : Nat) (l : List Int) (hs : s ≤ 4) (hl : l.length ≤ 1000) (H : List Box) : ASpec Tryz.prog 56 [vi s, vI l] H (Gives (vB (bes s l)) H) := by
  have hix := ixm_s hs
  refine ASpec.enter Tryz.func56 rfl (fun a w => Tryz.call56 a w) Tryz.ntmps56 Tryz.results56 fun base w β hI => ?_
  refine wk wT (wA DrM.mk wT) ?_
  refine AWP.loop (ι := {p : Nat × Nat // p.1 ≤ l.length}) (fun p => ⟨[(0, vi s), (4, .sl H.length p.1.2 0 (bes s (l.take p.1.1)).length 1 false), (8, vI l), (9, vi l.length), (10, vi p.1.1)], H ++ [⟨bytesC (bes s (l.take p.1.1)), 0, p.1.2, true⟩]⟩) (fun p => l.length - p.1.1) ⟨(0, 0), Nat.zero_le _⟩ ?_ ?_
  · dsimp only [List.take_zero, bes, List.flatMap_nil, bytesC, List.map_nil, List.length_nil]
    exact Coe.emp0 (t := 4) (sz := 1) rfl (Keeps.kp wT)
  · rintro ⟨⟨i, g⟩, hi⟩
    dsimp only at hi ⊢
    by_cases hc : (i : Int) < (l.length : Int)
    · have hg : l[i]? = some l[i] := List.getElem?_eq_getElem (by omega)
      generalize l[i] = n at hg
      have hsn := bes_snoc s (l.take i) n
      rw [← take_snoc hg] at hsn
      have hbl := bes_length s (l.take i)
      rw [List.length_take] at hbl
      have hb5 : (bes s (l.take i)).length ≤ 4000 := by
        rw [hbl]
        have := Nat.mul_le_mul hs (show min i l.length ≤ 1000 by omega)
        omega
      generalize bes s (l.take i) = A at *
      refine wk (wA hc (wA hg (wA hix wT))) (wA DrM.mk wT) ?_
      refine AWP.loop (ι := {p : Nat × List UInt8 × Nat // p.2.1 ++ layD n p.1 = A ++ layD n s ∧ p.1 ≤ 4 ∧ p.2.1.length ≤ 4004 - p.1}) (fun p => ⟨[(0, vi s), (4, .sl H.length p.1.2.2 0 p.1.2.1.length 1 false), (6, vi n), (7, vi (ixm p.1.1)), (8, vI l), (9, vi l.length), (10, vi i)], H ++ [⟨bytesC p.1.2.1, 0, p.1.2.2, true⟩]⟩) (fun p => p.1.1) ⟨(s, A, g), rfl, hs, by dsimp only; omega⟩ ?_ ?_
      · dsimp only
        exact Coe.kp
      · rintro ⟨⟨m, acc, g'⟩, h1, h3, h4⟩
        dsimp only at h1 h3 h4 ⊢
        have hrnd : ∀ c : UInt8, bytesC (acc ++ [c]) = bytesC acc ++ [.v (.int .u8 c.toNat)] := fun c => by simp [bytesC]
        have hrl : ∀ c : UInt8, (acc ++ [c]).length = acc.length + 1 := fun c => by simp
        rcases m with _ | _ | _ | _ | _ | m
        · rw [layD, List.append_nil] at h1
          subst h1
          dsimp only [ixm]
          refine wk wT (wA DrM.mk wT) ?_
          refine ⟨⟨(i + 1, g'), by dsimp only; omega⟩, ?_, by dsimp only; omega⟩
          dsimp only
          rw [hsn]
          exact Coe.kp
        · dsimp only [ixm]
          have k1 : (8 : Int) * 0 = 0 := rfl
          have k2 : min 0 64 = 0 := rfl
          have k3 : n.fdiv 1 = n := by rw [Int.fdiv_eq_ediv_of_nonneg _ (by decide), Int.ediv_one]
          have k4 := wrap_b8 (n)
          have k6 : n / 2 ^ (8 * 0) = n := by simp
          have k5 : layD n (0 + 1) = b8 (n) :: layD n 0 := congrArg (fun z => b8 z :: layD n _) k6
          rw [k5, List.append_cons] at h1
          have hr := hrnd (b8 (n))
          have hl := hrl (b8 (n))
          refine wk (wA k1 (wA k2 (wA k3 (wA k4 wT)))) (wA DrM.mk wT) ?_
          refine ⟨⟨(0, acc ++ [b8 (n)], g' + 1), h1, by dsimp only; omega, by dsimp only; rw [hl]; omega⟩, ?_, by dsimp only; omega⟩
          dsimp only [ixm]
          rw [hr, hl]
          exact Coe.kp
        · dsimp only [ixm]
          have k1 : (8 : Int) * 1 = 8 := rfl
          have k2 : min 8 64 = 8 := rfl
          have k3 : n.fdiv 256 = n / 256 := Int.fdiv_eq_ediv_of_nonneg _ (by decide)
          have k4 := wrap_b8 (n / 256)
          have k6 : n / 2 ^ (8 * 1) = n / 256 := by rfl
          have k5 : layD n (1 + 1) = b8 (n / 256) :: layD n 1 := congrArg (fun z => b8 z :: layD n _) k6
          rw [k5, List.append_cons] at h1
          have hr := hrnd (b8 (n / 256))
          have hl := hrl (b8 (n / 256))
          refine wk (wA k1 (wA k2 (wA k3 (wA k4 wT)))) (wA DrM.mk wT) ?_
          refine ⟨⟨(1, acc ++ [b8 (n / 256)], g' + 1), h1, by dsimp only; omega, by dsimp only; rw [hl]; omega⟩, ?_, by dsimp only; omega⟩
          dsimp only [ixm]
          rw [hr, hl]
          exact Coe.kp
        · dsimp only [ixm]
          have k1 : (8 : Int) * 2 = 16 := rfl
          have k2 : min 16 64 = 16 := rfl
          have k3 : n.fdiv 65536 = n / 65536 := Int.fdiv_eq_ediv_of_nonneg _ (by decide)
          have k4 := wrap_b8 (n / 65536)
          have k6 : n / 2 ^ (8 * 2) = n / 65536 := by rfl
          have k5 : layD n (2 + 1) = b8 (n / 65536) :: layD n 2 := congrArg (fun z => b8 z :: layD n _) k6
          rw [k5, List.append_cons] at h1
          have hr := hrnd (b8 (n / 65536))
          have hl := hrl (b8 (n / 65536))
          refine wk (wA k1 (wA k2 (wA k3 (wA k4 wT)))) (wA DrM.mk wT) ?_
          refine ⟨⟨(2, acc ++ [b8 (n / 65536)], g' + 1), h1, by dsimp only; omega, by dsimp only; rw [hl]; omega⟩, ?_, by dsimp only; omega⟩
          dsimp only [ixm]
          rw [hr, hl]
          exact Coe.kp
        · dsimp only [ixm]
          have k1 : (8 : Int) * 3 = 24 := rfl
          have k2 : min 24 64 = 24 := rfl
          have k3 : n.fdiv 16777216 = n / 16777216 := Int.fdiv_eq_ediv_of_nonneg _ (by decide)
          have k4 := wrap_b8 (n / 16777216)
          have k6 : n / 2 ^ (8 * 3) = n / 16777216 := by rfl
          have k5 : layD n (3 + 1) = b8 (n / 16777216) :: layD n 3 := congrArg (fun z => b8 z :: layD n _) k6
          rw [k5, List.append_cons] at h1
          have hr := hrnd (b8 (n / 16777216))
          have hl := hrl (b8 (n / 16777216))
          refine wk (wA k1 (wA k2 (wA k3 (wA k4 wT)))) (wA DrM.mk wT) ?_
          refine ⟨⟨(3, acc ++ [b8 (n / 16777216)], g' + 1), h1, by dsimp only; omega, by dsimp only; rw [hl]; omega⟩, ?_, by dsimp only; omega⟩
          dsimp only [ixm]
          rw [hr, hl]
          exact Coe.kp
        · omega
    · have hil : i = l.length := by omega
      subst hil
      rw [List.take_length]
      refine wk (wA hc wT) (wA DrM.mk wT) ?_
      refine wkEnd wT ?_
      exact Fin.frozG (G := bytesG (bes s l)) (b := H.length) (bx := ⟨bytesC (bes s l), 0, g, true⟩) (zbox _ _ 0 rfl) (Nat.le_refl _) rfl (by rw [bytesC_length]; omega) (chunk_bytesC _ _ rfl) (fun w H β v hx hr => hx v hr) (lt_bytes _) ⟨rfl, rfl⟩

end Go.Proofs.YtnlmdeeadldgmaaGreatDoor.VL

/- Layer 18: who counts, the domain's own records, addresses. -/
-- STEPWISE
-- WK
-- TAILN 5 10
set_option linter.unusedVariables false
set_option linter.unusedSimpArgs false
set_option maxRecDepth 10000
namespace Go.Proofs.YtnlmdeeadldgmaaGreatDoor.VL
open Go Go.RowKit Go.Lib

def inC (l : List Int) : List AV := l.map fun n => vi n
theorem inC_length (l : List Int) : (inC l).length = l.length := by simp [inC]
theorem inC_snoc (l : List Int) (n : Int) : inC l ++ [vi n] = inC (l ++ [n]) := by simp [inC]
theorem chunk_inC : ∀ (l : List Int) (n : Nat), n = l.length → chunk 1 n (inC l) = inG l
  | [], n, h => by subst h; rfl
  | x :: l, n, h => by
    subst h
    have := chunk_inC l l.length rfl
    simp only [inC, List.map_cons, List.length_cons, chunk, List.take_succ_cons, List.take_zero, List.drop_succ_cons, List.drop_zero] at this ⊢
    rw [this]
theorem lt_inC {n : Nat} {l : List Int} {c : AV} (h : c ∈ inC l) : Lt n c := by
  unfold inC at h
  obtain ⟨x, _, rfl⟩ := List.mem_map.1 h
  exact .v _
theorem lt_in {n : Nat} (l : List Int) : Lt n (.lst 1 (inG l)) := .lst _ _ fun i j g c hi hj => by
  simp only [inG, List.getElem?_map] at hi
  obtain ⟨b, _, rfl⟩ := Option.map_eq_some_iff.1 hi
  rcases j with _ | j <;> simp at hj
  subst hj
  exact .v _
theorem lt_scC {n : Nat} (s : Sc) {c : AV} (h : c ∈ scC s) : Lt n c := by
  simp only [List.mem_cons, List.not_mem_nil, or_false] at h
  rcases h with rfl | rfl | rfl
  · exact lt_nd _
  · exact lt_in _
  · exact .v _
def numsN (s : Sc) : List Int := (cntL s).map Nd.n

set_option maxHeartbeats 2000000 in
theorem counts_spec (s : Sc) (hs : ScIn s) (H : List Box) : ASpec Tryz.prog 21 [.agg (scC s)] H (Gives (.lst 1 (inG (numsN s))) H) := by
  have hc := fun H => counted_spec s hs H
  have hcl : (cntL s).length ≤ 1048576 := by
    have : (cntL s).length ≤ s.v.length := List.length_filter_le _ _
    have := hs.v
    omega
  unfold numsN
  generalize cntL s = C at *
  have hls : ∀ (n : Nat) (c : AV), c ∈ scC s → Lt n c := fun n c h => lt_scC s h
  clear hs
  obtain ⟨v, a, d⟩ := s
  try dsimp only at *
  refine ASpec.enter Tryz.func21 rfl (fun a w => Tryz.call21 a w) Tryz.ntmps21 Tryz.results21 fun base w β hI => ?_
  refine wk wT (wA hc (wA ((TnM.mk (id := 5) (n := 10))) (wA DrM.mk wT))) ?_
  refine AWP.loop (ι := {p : Nat × Nat // p.1 ≤ C.length}) (fun p => ⟨[(3, .sl (H.length + 1) p.1.2 0 p.1.1 1 false), (7, .lst 4 (ndG C)), (8, vi C.length), (9, vi p.1.1)], H ++ [⟨scC ⟨v, a, d⟩, 0, 0, false⟩, ⟨inC ((C.take p.1.1).map Nd.n), 0, p.1.2, true⟩]⟩) (fun p => C.length - p.1.1) ⟨(0, 0), Nat.zero_le _⟩ ?_ ?_
  · dsimp only
    exact Coe.emp (t := 3) (sz := 1) (N := [_]) rfl (Keeps.kp wT)
  · rintro ⟨⟨i, g⟩, hi⟩
    dsimp only at hi ⊢
    have hil : (inC ((C.take i).map Nd.n)).length = i := by rw [inC_length, List.length_map, List.length_take]; omega
    by_cases hc : (i : Int) < (C.length : Int)
    · have hg : C[i]? = some C[i] := List.getElem?_eq_getElem (by omega)
      generalize C[i] = x at hg
      have hsn := inC_snoc ((C.take i).map Nd.n) x.n
      rw [← List.map_singleton (f := Nd.n), ← List.map_append, ← take_snoc hg] at hsn
      obtain ⟨n, ⟨xg, b, ap⟩⟩ := x
      dsimp only at hsn
      generalize inC ((C.take i).map Nd.n) = A at *
      have hlt : ∀ c ∈ inC ((C.take (i + 1)).map Nd.n), Lt (H.length + 2) c := fun c h => lt_inC h
      generalize hB : inC ((C.take (i + 1)).map Nd.n) = B at *
      refine wk (wA hc (wA hg (wA hil (wA hsn wT)))) (wA ((TnM.mk (id := 5) (n := 10))) (wA DrM.mk wT)) ?_
      refine ⟨⟨(i + 1, g + 1), by dsimp only; omega⟩, ?_, by dsimp only; omega⟩
      dsimp only
      rw [hB]
      refine Coe.cutN (M := [_, _]) (Keeps.kp wT) (fun p hp => ?_) (fun bx hbx c hc => ?_)
      · simp only [List.mem_cons, List.not_mem_nil, or_false] at hp
        rcases hp with rfl | rfl | rfl | rfl <;> first | exact .v _ | exact lt_nd _ | exact .sl _ _ _ _ _ _ (by simp)
      · simp only [List.mem_cons, List.not_mem_nil, or_false] at hbx
        rcases hbx with rfl | rfl
        · exact hls _ _ hc
        · exact hlt c hc
    · have hil : i = C.length := by omega
      subst hil
      rw [List.take_length] at *
      refine wk (wA hc wT) (wA ((TnM.mk (id := 5) (n := 10))) (wA DrM.mk wT)) ?_
      refine wkEnd wT ?_
      exact Fin.frozG (G := inG (C.map Nd.n)) (b := H.length + 1) (zbox _ _ 1 rfl) (Nat.le_add_right _ _) rfl (by dsimp only; omega) (chunk_inC _ _ (by simp)) (fun w H β v hx hr => hx v hr) (lt_in _) ⟨rfl, rfl⟩

theorem told_spec (name : List UInt8) (t : Int) (data : List UInt8) (H : List Box) : ASpec Tryz.prog 55 [vs name, vi t, vs data] H (Gives (.agg (rrC (toldN name t data))) H) := by
  refine ASpec.enter Tryz.func55 rfl (fun a w => Tryz.call55 a w) Tryz.ntmps55 Tryz.results55 fun base w β hI => ?_
  refine wk wT (wA ((TnM.mk (id := 5) (n := 10))) (wA DrM.mk wT)) ?_
  refine wkEnd wT ?_
  exact Fin.cut (.agg _ fun i c hi => by rcases i with _ | _ | _ | _ | _ | i <;> simp at hi <;> subst hi <;> exact .v _) ⟨rfl, rfl⟩
theorem lt_rrb {n : Nat} (r : Rr) (b : Bool) : Lt n (.tup [.agg (rrC r), vb b]) := .tup _ fun i c hi => by
  rcases i with _ | _ | i <;> simp at hi <;> subst hi
  · exact .agg _ fun i c hi => by rcases i with _ | _ | _ | _ | _ | i <;> simp at hi <;> subst hi <;> exact .v _
  · exact .v _

set_option maxHeartbeats 2000000 in
theorem start_spec (s : Sc) (hd : s.d.length ≤ 1048576) (H : List Box) : ASpec Tryz.prog 18 [.agg (scC s)] H (Gives (.tup [.agg (rrC (startN s.d).1), vb (startN s.d).2]) H) := by
  have w1 : ∀ H, ASpec Tryz.prog 52 [.agg (scC s), .lst 1 [[vs [110, 115]]]] H (Gives (.tup [vs (winN s.d [[110, 115]]).1, vb (winN s.d [[110, 115]]).2]) H) := fun H => zwithin_spec s [[110, 115]] (by omega) (by simp) (by simp) (by simp [lenS]) H
  have w2 : ∀ H, ASpec Tryz.prog 52 [.agg (scC s), .lst 1 [[vs [114, 111, 111, 116]]]] H (Gives (.tup [vs (winN s.d [[114, 111, 111, 116]]).1, vb (winN s.d [[114, 111, 111, 116]]).2]) H) := fun H => zwithin_spec s [[114, 111, 111, 116]] (by omega) (by simp) (by simp) (by simp [lenS]) H
  have hn : ∀ H, ASpec Tryz.prog 56 [vi 4, .lst 1 [[vi 1], [vi 5], [vi 5], [vi 5], [vi 5]]] H (Gives (vB (bes 4 [1, 5, 5, 5, 5])) H) := fun H => numbers_spec 4 [1, 5, 5, 5, 5] (by simp) (by simp) H
  have ht := fun H => told_spec s.d 6 (soaB s.d) H
  have l1 := winN_len s.d [[110, 115]]
  have l2 := winN_len s.d [[114, 111, 111, 116]]
  have l3 := bes_length 4 [1, 5, 5, 5, 5]
  have hso : (winN s.d [[110, 115]]).1 ++ (winN s.d [[114, 111, 111, 116]]).1 ++ bes 4 [1, 5, 5, 5, 5] = soaB s.d := rfl
  unfold startN startOk toldN at *
  generalize soaB s.d = SO at *
  generalize winN s.d [[110, 115]] = A at *
  generalize winN s.d [[114, 111, 111, 116]] = B at *
  generalize bes 4 [1, 5, 5, 5, 5] = C at *
  obtain ⟨A, oa⟩ := A
  obtain ⟨B, ob⟩ := B
  obtain ⟨v, a, d⟩ := s
  simp only [List.length_cons, List.length_nil] at l3
  dsimp only at *
  cases oa with
  | false =>
    rw [if_neg (by simp)]
    refine ASpec.enter Tryz.func18 rfl (fun a w => Tryz.call18 a w) Tryz.ntmps18 Tryz.results18 fun base w β hI => ?_
    refine wk wT (wA w1 (wA w2 (wA ((TnM.mk (id := 5) (n := 10))) (wA DrM.mk wT)))) ?_
    refine wkEnd wT ?_
    exact Fin.cut (lt_rrb rrZ false) ⟨rfl, rfl⟩
  | true =>
    cases ob with
    | false =>
      rw [if_neg (by simp)]
      refine ASpec.enter Tryz.func18 rfl (fun a w => Tryz.call18 a w) Tryz.ntmps18 Tryz.results18 fun base w β hI => ?_
      refine wk wT (wA w1 (wA w2 (wA ((TnM.mk (id := 5) (n := 10))) (wA DrM.mk wT)))) ?_
      refine wkEnd wT ?_
      exact Fin.cut (lt_rrb rrZ false) ⟨rfl, rfl⟩
    | true =>
      rw [if_pos (by simp)]
      have hab : (A ++ B).length ≤ 1000 := by rw [List.length_append]; omega
      refine ASpec.enter Tryz.func18 rfl (fun a w => Tryz.call18 a w) Tryz.ntmps18 Tryz.results18 fun base w β hI => ?_
      refine wkL (wA strApp (wA hso wT)) (wA w1 (wA w2 (wA hn (wA ht (wA ((TnM.mk (id := 5) (n := 10))) (wA DrM.mk wT)))))) ?_
      refine wkEnd wT ?_
      exact Fin.cut (lt_rrb ⟨d, 6, 1, 5, _⟩ true) ⟨rfl, rfl⟩

theorem apex_spec (s : Sc) (t : Int) (hd : s.d.length ≤ 1048576) (H : List Box) : ASpec Tryz.prog 69 [.agg (scC s), vi t] H (Gives (.tup [vs (apexN s.d t).1, vb (apexN s.d t).2]) H) := by
  unfold apexN
  by_cases h : t = 2
  · rw [if_pos h]
    have w1 : ∀ H, ASpec Tryz.prog 52 [.agg (scC s), .lst 1 [[vs [110, 115]]]] H (Gives (.tup [vs (winN s.d [[110, 115]]).1, vb (winN s.d [[110, 115]]).2]) H) := fun H => zwithin_spec s [[110, 115]] (by omega) (by simp) (by simp) (by simp [lenS]) H
    generalize winN s.d [[110, 115]] = A at *
    obtain ⟨v, a, d⟩ := s
    refine ASpec.enter Tryz.func69 rfl (fun a w => Tryz.call69 a w) Tryz.ntmps69 Tryz.results69 fun base w β hI => ?_
    refine wk (wA h wT) (wA w1 (wA ((TnM.mk (id := 5) (n := 10))) (wA DrM.mk wT))) ?_
    refine wkEnd wT ?_
    exact Fin.cut (ltVV _ _) ⟨rfl, rfl⟩
  · rw [if_neg h]
    have hs := fun H => start_spec s hd H
    generalize startN s.d = A at *
    obtain ⟨⟨an, at', ac, al, ad⟩, ok⟩ := A
    obtain ⟨v, a, d⟩ := s
    dsimp only at *
    refine ASpec.enter Tryz.func69 rfl (fun a w => Tryz.call69 a w) Tryz.ntmps69 Tryz.results69 fun base w β hI => ?_
    refine wk (wA h wT) (wA hs (wA ((TnM.mk (id := 5) (n := 10))) (wA DrM.mk wT))) ?_
    refine wkEnd wT ?_
    exact Fin.cut (ltVV _ _) ⟨rfl, rfl⟩

set_option maxHeartbeats 2000000 in
theorem address_spec (l : List En) (key : Int) (hl : l.length ≤ 9223372036854775807) (H : List Box) : ASpec Tryz.prog 68 [.lst 3 (enG l), vi key] H (Gives (.tup [vs (addrE l key).1, vb (addrE l key).2]) H) := by
  have hg := fun H => enGet_spec l key hl H
  unfold addrE
  cases hx : getE l key with
  | none =>
    rw [hx] at hg
    have hg : ∀ H, ASpec Tryz.prog 108 [.lst 3 (enG l), vi key] H (Gives (.tup [.agg [vi 0, vi 0, vs []], vb false]) H) := hg
    dsimp only
    refine ASpec.enter Tryz.func68 rfl (fun a w => Tryz.call68 a w) Tryz.ntmps68 Tryz.results68 fun base w β hI => ?_
    refine wk wT (wA hg (wA ((TnM.mk (id := 5) (n := 10))) (wA DrM.mk wT))) ?_
    refine wkEnd wT ?_
    exact Fin.cut (ltVV _ _) ⟨rfl, rfl⟩
  | some x =>
    rw [hx] at hg
    obtain ⟨k', v', s⟩ := x
    have hg : ∀ H, ASpec Tryz.prog 108 [.lst 3 (enG l), vi key] H (Gives (.tup [.agg [vi k', vi v', vs s], vb true]) H) := hg
    dsimp only
    by_cases h1 : key = 1
    · subst h1
      by_cases h4 : (s.length : Int) = 4
      · rw [if_pos (.inl ⟨rfl, by omega⟩)]
        refine ASpec.enter Tryz.func68 rfl (fun a w => Tryz.call68 a w) Tryz.ntmps68 Tryz.results68 fun base w β hI => ?_
        refine wk (wA h4 wT) (wA hg (wA ((TnM.mk (id := 5) (n := 10))) (wA DrM.mk wT))) ?_
        refine wkEnd wT ?_
        exact Fin.cut (ltVV _ _) ⟨rfl, rfl⟩
      · rw [if_neg (by omega)]
        refine ASpec.enter Tryz.func68 rfl (fun a w => Tryz.call68 a w) Tryz.ntmps68 Tryz.results68 fun base w β hI => ?_
        refine wk (wA h4 wT) (wA hg (wA ((TnM.mk (id := 5) (n := 10))) (wA DrM.mk wT))) ?_
        refine wkEnd wT ?_
        exact Fin.cut (ltVV _ _) ⟨rfl, rfl⟩
    · by_cases h2 : key = 2
      · subst h2
        clear h1
        by_cases h4 : (s.length : Int) = 16
        · rw [if_pos (.inr ⟨rfl, by omega⟩)]
          refine ASpec.enter Tryz.func68 rfl (fun a w => Tryz.call68 a w) Tryz.ntmps68 Tryz.results68 fun base w β hI => ?_
          refine wk (wA h4 wT) (wA hg (wA ((TnM.mk (id := 5) (n := 10))) (wA DrM.mk wT))) ?_
          refine wkEnd wT ?_
          exact Fin.cut (ltVV _ _) ⟨rfl, rfl⟩
        · rw [if_neg (by omega)]
          refine ASpec.enter Tryz.func68 rfl (fun a w => Tryz.call68 a w) Tryz.ntmps68 Tryz.results68 fun base w β hI => ?_
          refine wk (wA h4 wT) (wA hg (wA ((TnM.mk (id := 5) (n := 10))) (wA DrM.mk wT))) ?_
          refine wkEnd wT ?_
          exact Fin.cut (ltVV _ _) ⟨rfl, rfl⟩
      · rw [if_neg (by omega)]
        refine ASpec.enter Tryz.func68 rfl (fun a w => Tryz.call68 a w) Tryz.ntmps68 Tryz.results68 fun base w β hI => ?_
        refine wk (wA h1 (wA h2 wT)) (wA hg (wA ((TnM.mk (id := 5) (n := 10))) (wA DrM.mk wT))) ?_
        refine wkEnd wT ?_
        exact Fin.cut (ltVV _ _) ⟨rfl, rfl⟩

end Go.Proofs.YtnlmdeeadldgmaaGreatDoor.VL

/- Layers 4, 7: whether digests and entries may be, as the program and the reference look at them. -/
-- STEPWISE
-- WK
set_option linter.unusedVariables false
set_option linter.unusedSimpArgs false
set_option maxRecDepth 10000
namespace Go.Proofs.YtnlmdeeadldgmaaGreatDoor.VL
open Go Go.RowKit Go.Lib

end Go.Proofs.YtnlmdeeadldgmaaGreatDoor.VL

/- Layers 5, 8: whether states and deltas may be, as the program and the reference look at them. -/
-- STEPWISE
-- WK
set_option linter.unusedVariables false
set_option linter.unusedSimpArgs false
set_option maxRecDepth 10000
namespace Go.Proofs.YtnlmdeeadldgmaaGreatDoor.VL
open Go Go.RowKit Go.Lib

set_option maxHeartbeats 1000000 in
theorem refStRight_spec (x : St) (hl : x.a.length ≤ 9223372036854775807) (hs : ∀ y ∈ x.a, y.s.length ≤ 9223372036854775807) (H : List Box) : ASpec Tryz.prog 51 [.agg (stC x)] H (Gives (vb (stOk x)) H) := by
  have hr := fun H => refRight4_spec x.a hl hs H
  obtain ⟨g, b, a⟩ := x
  have he : stOk ⟨g, b, a⟩ = (decide (1 ≤ g) && (decide (g ≤ 1099511627776) && (decide (0 ≤ b) && (decide (b ≤ 1099511627776) && tabOk a)))) := rfl
  generalize hm : stOk ⟨g, b, a⟩ = m at *
  clear hm hl hs
  dsimp only at hr
  by_cases q0 : 1 ≤ g
  · rw [decide_eq_true (show 1 ≤ g by omega)] at he
    try simp only [Bool.true_and] at he
    by_cases q1 : g ≤ 1099511627776
    · rw [decide_eq_true (show g ≤ 1099511627776 by omega)] at he
      try simp only [Bool.true_and] at he
      by_cases q2 : 0 ≤ b
      · rw [decide_eq_true (show 0 ≤ b by omega)] at he
        try simp only [Bool.true_and] at he
        by_cases q3 : b ≤ 1099511627776
        · rw [decide_eq_true (show b ≤ 1099511627776 by omega)] at he
          try simp only [Bool.true_and] at he
          rw [he]
          generalize tabOk a = t at *
          refine ASpec.enter Tryz.func51 rfl (fun a w => Tryz.call51 a w) Tryz.ntmps51 Tryz.results51 fun base w β hI => ?_
          refine wk (wA q0 (wA q1 (wA q2 (wA q3 wT)))) (wA hr (wA DrM.mk wT)) ?_
          refine wkEnd wT ?_
          cases t <;> exact Fin.cut (.v _) ⟨rfl, rfl⟩
        · rw [decide_eq_false (show ¬ b ≤ 1099511627776 by omega)] at he
          try simp only [Bool.false_and, Bool.and_false] at he
          rw [he]
          clear hr
          refine ASpec.enter Tryz.func51 rfl (fun a w => Tryz.call51 a w) Tryz.ntmps51 Tryz.results51 fun base w β hI => ?_
          refine wk (wA q0 (wA q1 (wA q2 (wA q3 wT)))) (wA DrM.mk wT) ?_
          refine wkEnd wT ?_
          exact Fin.cut (.v _) ⟨rfl, rfl⟩
      · rw [decide_eq_false (show ¬ 0 ≤ b by omega)] at he
        try simp only [Bool.false_and, Bool.and_false] at he
        rw [he]
        clear hr
        refine ASpec.enter Tryz.func51 rfl (fun a w => Tryz.call51 a w) Tryz.ntmps51 Tryz.results51 fun base w β hI => ?_
        refine wk (wA q0 (wA q1 (wA q2 wT))) (wA DrM.mk wT) ?_
        refine wkEnd wT ?_
        exact Fin.cut (.v _) ⟨rfl, rfl⟩
    · rw [decide_eq_false (show ¬ g ≤ 1099511627776 by omega)] at he
      try simp only [Bool.false_and, Bool.and_false] at he
      rw [he]
      clear hr
      refine ASpec.enter Tryz.func51 rfl (fun a w => Tryz.call51 a w) Tryz.ntmps51 Tryz.results51 fun base w β hI => ?_
      refine wk (wA q0 (wA q1 wT)) (wA DrM.mk wT) ?_
      refine wkEnd wT ?_
      exact Fin.cut (.v _) ⟨rfl, rfl⟩
  · rw [decide_eq_false (show ¬ 1 ≤ g by omega)] at he
    try simp only [Bool.false_and, Bool.and_false] at he
    rw [he]
    clear hr
    refine ASpec.enter Tryz.func51 rfl (fun a w => Tryz.call51 a w) Tryz.ntmps51 Tryz.results51 fun base w β hI => ?_
    refine wk (wA q0 wT) (wA DrM.mk wT) ?_
    refine wkEnd wT ?_
    exact Fin.cut (.v _) ⟨rfl, rfl⟩

theorem low_any (f : Int) (l : List En) : (l.any fun x => decide (x.v ≤ f)) = !aboveAll f l := by
  unfold aboveAll
  induction l with
  | nil => rfl
  | cons x l ih =>
    rw [List.any_cons, List.all_cons, ih, Bool.not_and]
    congr 1
    by_cases h : x.v ≤ f
    · rw [decide_eq_true h, decide_eq_false (by omega)]; rfl
    · rw [decide_eq_false h, decide_eq_true (by omega)]; rfl

end Go.Proofs.YtnlmdeeadldgmaaGreatDoor.VL

/- Layer 8: whether deltas may be. -/
-- STEPWISE
-- WK
set_option linter.unusedVariables false
set_option linter.unusedSimpArgs false
set_option maxRecDepth 10000
namespace Go.Proofs.YtnlmdeeadldgmaaGreatDoor.VL
open Go Go.RowKit Go.Lib

abbrev DlIn (d : Dl) : Prop := d.s.a.length ≤ 9223372036854775807 ∧ ∀ y ∈ d.s.a, y.s.length ≤ 9223372036854775807

end Go.Proofs.YtnlmdeeadldgmaaGreatDoor.VL

/- Layer 4: an entry put in its place, as the reference does it. -/
-- STEPWISE
-- WK
set_option linter.unusedVariables false
set_option linter.unusedSimpArgs false
set_option maxRecDepth 10000
namespace Go.Proofs.YtnlmdeeadldgmaaGreatDoor.VL
open Go Go.RowKit Go.Lib

theorem putGo_drop (x : En) {l : List En} {i : Nat} {y : En} (h : l[i]? = some y) (p : Bool) :
    putGo x (l.drop i) p = (if p = false ∧ x.k ≤ y.k then [x] else []) ++ ((if y.k = x.k then [] else [y]) ++ putGo x (l.drop (i + 1)) (p || decide (x.k ≤ y.k))) := by
  have hi := (List.getElem?_eq_some_iff.1 h).1
  rw [List.drop_eq_getElem_cons hi, putGo, (List.getElem?_eq_some_iff.1 h).2]
theorem lt_enC' {n : Nat} {l : List En} {c : AV} (h : c ∈ enF l) : Lt n c := by
  simp only [enF, flat, List.mem_flatten, List.mem_map] at h
  obtain ⟨g, ⟨x, _, rfl⟩, h⟩ := h
  simp only [List.mem_cons, List.not_mem_nil, or_false] at h
  rcases h with rfl | rfl | rfl <;> exact .v _
theorem appAt (H N : List Box) (i : Nat) {x : Box} (h : N[i]? = some x) : (H ++ N)[H.length + i]? = some x := by
  rw [List.getElem?_append_right (by omega)]; simpa using h
theorem cap32 {n : Nat} (h : n ≤ 1048579) : n * 32 ≤ 140737488355328 := by omega
/-- One's own row, to be read from now on. -/
theorem Fin.enR {E : Ent} {N : List Box} {b g n : Nat} {l : List En} {bx : Box} (hb : (E.H ++ N)[b]? = some bx) (hge : E.H.length ≤ b) (hg : bx.gen = g) (hc : bx.cells = enF l) (hn : n = l.length) :
    Fin E (.sl b g 0 n 3 false) (E.H ++ N) (fun r H => Gives (.lst 3 (enG l)) E.H (.ret r) H) := by
  subst hn
  exact Fin.frozG (G := enG l) hb hge hg (by rw [hc, enF_length]; exact Nat.le_refl _) (by rw [hc]; exact chunk_enF l) (fun w H β v hx hr => hx v hr) (lt_en l) ⟨rfl, rfl⟩

end Go.Proofs.YtnlmdeeadldgmaaGreatDoor.VL

/- Layer 8: whether deltas may be, as the reference looks at them. -/
-- STEPWISE
-- WK
set_option linter.unusedVariables false
set_option linter.unusedSimpArgs false
set_option maxRecDepth 10000
namespace Go.Proofs.YtnlmdeeadldgmaaGreatDoor.VL
open Go Go.RowKit Go.Lib

def aboveL (f : Int) : List En → List En
  | [] => []
  | x :: l => (if f < x.v then [x] else []) ++ aboveL f l
theorem aboveL_drop {l : List En} {i : Nat} {x : En} (f : Int) (h : l[i]? = some x) : aboveL f (l.drop i) = (if f < x.v then [x] else []) ++ aboveL f (l.drop (i + 1)) := by
  have hi := (List.getElem?_eq_some_iff.1 h).1
  rw [List.drop_eq_getElem_cons hi, aboveL, (List.getElem?_eq_some_iff.1 h).2]
theorem aboveL_len (f : Int) (l : List En) : (aboveL f l).length ≤ l.length := by
  induction l with
  | nil => simp [aboveL]
  | cons x l ih =>
    rw [aboveL, List.length_append]
    split
    · simp only [List.length_cons, List.length_nil]; omega
    · simp only [List.length_cons, List.length_nil]; omega
theorem aboveL_all (f : Int) (l : List En) : aboveAll f l = decide ((aboveL f l).length = l.length) := by
  unfold aboveAll
  induction l with
  | nil => rfl
  | cons x l ih =>
    have hl := aboveL_len f l
    rw [List.all_cons, ih, aboveL, List.length_append, List.length_cons]
    by_cases h : f < x.v
    · rw [if_pos h, decide_eq_true h, Bool.true_and]
      congr 1
      simp only [List.length_cons, List.length_nil]
      exact propext (by omega)
    · rw [if_neg h, decide_eq_false h, Bool.false_and]
      exact (decide_eq_false (by simp only [List.length_nil]; omega)).symm

theorem stOk_len {s : St} (h : stOk s = true) : s.a.length ≤ 1048576 := by
  simp only [stOk, Bool.and_eq_true] at h
  exact Nat.le_trans (tabOk_len h.2.2.2.2) (by omega)

end Go.Proofs.YtnlmdeeadldgmaaGreatDoor.VL

/- Layers 4, 7: rows of entries and of digests compared. -/
-- STEPWISE
-- WK
set_option linter.unusedVariables false
set_option linter.unusedSimpArgs false
set_option maxRecDepth 10000
namespace Go.Proofs.YtnlmdeeadldgmaaGreatDoor.VL
open Go Go.RowKit Go.Lib

end Go.Proofs.YtnlmdeeadldgmaaGreatDoor.VL

/- Layers 4, 5, 7, 8: whether tables, states, digests and deltas are the same. -/
-- STEPWISE
-- WK
set_option linter.unusedVariables false
set_option linter.unusedSimpArgs false
set_option maxRecDepth 10000
namespace Go.Proofs.YtnlmdeeadldgmaaGreatDoor.VL
open Go Go.RowKit Go.Lib

end Go.Proofs.YtnlmdeeadldgmaaGreatDoor.VL

/- Layers 8, 20: whether lists of deltas, and talks, are the same; and whether they are great. -/
-- STEPWISE
-- WK
set_option linter.unusedVariables false
set_option linter.unusedSimpArgs false
set_option maxRecDepth 10000
namespace Go.Proofs.YtnlmdeeadldgmaaGreatDoor.VL
open Go Go.RowKit Go.Lib

abbrev TkIn (t : Tk) : Prop := t.d.length ≤ 9223372036854775807 ∧ t.l.length ≤ 9223372036854775807 ∧ ∀ d ∈ t.l, DlIn d
def tkSame (s t : Tk) : Bool := decide (s.k = t.k) && (decide (s.d = t.d) && decide (s.l = t.l))

end Go.Proofs.YtnlmdeeadldgmaaGreatDoor.VL

/- Layers 4, 5, 8, 20: whether what comes is greater than is looked at; a kind's shape. -/
-- STEPWISE
-- WK
set_option linter.unusedVariables false
set_option linter.unusedSimpArgs false
set_option maxRecDepth 10000
namespace Go.Proofs.YtnlmdeeadldgmaaGreatDoor.VL
open Go Go.RowKit Go.Lib

def great4 (l : List En) : Bool := decide (4000 < grE l.length l)
theorem refGreat5_spec (s : St) (hl : s.a.length ≤ 9223372036854775807) (hs : ∀ y ∈ s.a, y.s.length ≤ 9223372036854775807) (H : List Box) : ASpec Tryz.prog 90 [.agg (stC s)] H (Gives (vb (great4 s.a)) H) := by
  have hr : ∀ H, ASpec Tryz.prog 126 [.lst 3 (enG s.a)] H (Gives (vb (great4 s.a)) H) := fun H => refGreat4_spec s.a hl hs H
  obtain ⟨g, b, a⟩ := s
  dsimp only at *
  generalize great4 a = r at *
  refine ASpec.enter Tryz.func90 rfl (fun a w => Tryz.call90 a w) Tryz.ntmps90 Tryz.results90 fun base w β hI => ?_
  refine wk wT (wA hr (wA DrM.mk wT)) ?_
  refine wkEnd wT ?_
  exact Fin.cut (.v _) ⟨rfl, rfl⟩

def gr8Go : Nat → List Dl → Bool
  | _, [] => false
  | i, d :: l => if i < 41 then (great4 d.s.a || gr8Go (i + 1) l) else false
theorem gr8Go_drop {l : List Dl} {i : Nat} {x : Dl} (h : l[i]? = some x) : gr8Go i (l.drop i) = if i < 41 then (great4 x.s.a || gr8Go (i + 1) (l.drop (i + 1))) else false := by
  have hi := (List.getElem?_eq_some_iff.1 h).1
  rw [List.drop_eq_getElem_cons hi, gr8Go, (List.getElem?_eq_some_iff.1 h).2]
def great8 (l : List Dl) : Bool := gr8Go 0 l || decide (40 < l.length)

def great20 (t : Tk) : Bool := decide (40 < t.d.length) || great8 t.l
def kOk (k : Int) : Bool := decide (1 ≤ k ∧ k < 8)
end Go.Proofs.YtnlmdeeadldgmaaGreatDoor.VL

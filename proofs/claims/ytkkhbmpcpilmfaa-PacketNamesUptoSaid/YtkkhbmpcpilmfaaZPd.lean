/- Cells of boxes that hold slices: an empty one becomes one of a box of its own; one's own is only read from now on. -/
import Derived.Test.YtkkhbmpcpilmfaaZCd
import Derived.Test.YtkkhbmpcpilmfaaZPc
import Derived.Test.YtkkhbmpcpilmfaaZPb
import Derived.Test.YtkkhbmpcpilmfaaZPktC
set_option linter.unusedVariables false
set_option linter.unusedSimpArgs false
namespace Go.Proofs.Ytkkhbmpcpilmfaa.VL
open Go Go.RowKit Go.Lib

/-- A cell says less. -/
theorem Coe.cell {E : Ent} {l : List (Nat × AV)} {H : List Box} {k j : Nat} {bx : Box} {c c' : AV} (hb : H[k]? = some bx) (hj : bx.cells[j]? = some c) (hw : ∀ (w : World) (β : Pl) (x : Value), Inv E.base w H β → Rep w H β c x → Rep w H β c' x) :
    Coe E ⟨l, H⟩ ⟨l, H.set k ⟨bx.cells.set j c', bx.ro, bx.gen, bx.grow⟩⟩ := fun a w ⟨β, hs⟩ => by
  have hI := hs.inv
  dsimp only at hI
  cases hβ : β k with
  | none =>
    have := hI.virt _ _ hb hβ
    simp [this] at hj
  | some p =>
    obtain ⟨k', s⟩ := p
    obtain ⟨q1, q2⟩ := hI.real _ _ _ _ hb hβ
    have hcells := hI.cells _ _ _ _ hb hβ
    obtain ⟨g1, g2⟩ := repl (w' := w) (bx' := ⟨bx.cells.set j c', bx.ro, bx.gen, bx.grow⟩) (k' := k') (s' := s) hI hb (Wor.refl _) (fun _ _ => False) (fun _ _ h => h.elim) (fun _ _ _ _ => rfl)
      ⟨q1, q2⟩ (by rw [List.length_set]; exact hI.ro _ _ hb) (.inr ⟨s, hβ, Nat.le_refl _, Nat.le_refl _, fun h => h, .inr (by rw [List.length_set]; exact Nat.le_refl _)⟩) (Nat.le_refl _) (fun _ => hβ) (fun h => by omega) (fun i c1 hi => by
        by_cases hij : i = j
        · subst hij
          dsimp only at hi
          rw [List.getElem?_set_self (List.getElem?_eq_some_iff.1 hj).1] at hi
          injection hi with hi
          subst hi
          obtain ⟨x, e1, e2, e3⟩ := hcells i _ hj
          exact ⟨x, e1, e2, hw _ _ _ hI e3⟩
        · dsimp only at hi
          rw [List.getElem?_set_ne (Ne.symm hij)] at hi
          exact hcells i _ hi)
    exact ⟨_, ⟨hs.defers, hs.size, g1, hs.stp.trans g2, fun t => (hs.tmps t).stp g2⟩⟩
/-- A box that holds nothing. -/
theorem Coe.newB {E : Ent} {l : List (Nat × AV)} {H : List Box} : Coe E ⟨l, H⟩ ⟨l, H ++ [(⟨[], 0, 0, true⟩ : Box)]⟩ := fun a w ⟨β, hs⟩ => by
  obtain ⟨h1, h2⟩ := newv hs.inv 0 0 rfl
  exact ⟨_, ⟨hs.defers, hs.size, h1, hs.stp.trans h2, fun t => (hs.tmps t).stp h2⟩⟩
theorem Coe.empCell {E : Ent} {l : List (Nat × AV)} {H : List Box} {k j : Nat} {bx : Box} (sz : Nat) (hb : H[k]? = some bx) (hj : bx.cells[j]? = some .emp) :
    Coe E ⟨l, H⟩ ⟨l, (H ++ [(⟨[], 0, 0, true⟩ : Box)]).set k ⟨bx.cells.set j (.sl H.length 0 0 0 sz false), bx.ro, bx.gen, bx.grow⟩⟩ :=
  Coe.trans (σ' := ⟨l, H ++ [(⟨[], 0, 0, true⟩ : Box)]⟩) Coe.newB (Coe.cell (H := H ++ [(⟨[], 0, 0, true⟩ : Box)]) (by rw [List.getElem?_append_left (List.getElem?_eq_some_iff.1 hb).1]; exact hb) hj fun w β x hI hr => by
    cases hr with
    | emp a => exact rep_sl (bx := ⟨[], 0, 0, true⟩) (by rw [List.getElem?_append_right (by omega)]; simp) rfl ⟨a, 0, rfl, Nat.le_refl _, by simp, fun hh => absurd hh (by omega)⟩)
theorem Coe.freezeCell {E : Ent} {l : List (Nat × AV)} {H : List Box} {k j m g n sz : Nat} {bx bm : Box} {G : List (List AV)} (hb : H[k]? = some bx) (hj : bx.cells[j]? = some (.sl m g 0 n sz false)) (hm : H[m]? = some bm) (hg : bm.gen = g) (hkm : k ≠ m) (hfit : n * sz ≤ bm.cells.length) (hG : chunk sz n bm.cells = G) :
    Coe E ⟨l, H⟩ ⟨l, (H.set m { bm with ro := max bm.ro (n * sz) }).set k ⟨bx.cells.set j (.lst sz G), bx.ro, bx.gen, bx.grow⟩⟩ :=
  Coe.trans (σ' := ⟨l, H.set m { bm with ro := max bm.ro (n * sz) }⟩) (fun a w ⟨β, hs⟩ => by
    obtain ⟨h1, h2⟩ := freeze_inv hs.inv hm hfit
    exact ⟨β, ⟨hs.defers, hs.size, h1, hs.stp.trans h2, fun t => (hs.tmps t).stp h2⟩⟩)
    (Coe.cell (by rw [List.getElem?_set_ne (Ne.symm hkm)]; exact hb) hj fun w β x hI hr => by
      have hv := rep_view (bx := { bm with ro := max bm.ro (n * sz) }) hI (List.getElem?_set_self (List.getElem?_eq_some_iff.1 hm).1) hg (by rw [Nat.zero_add]; exact Nat.le_max_right _ _) hr
      rwa [List.drop_zero, hG] at hv)

end Go.Proofs.Ytkkhbmpcpilmfaa.VL

/- Layer 17: questions, as the program parses them. -/
-- STEPWISE
-- WK
-- HWR
-- HOLE 11 0 [(.same, [1]), (.same, [1]), (.same, []), (.wr 1, []), (.same, [1]), (.wr 1, []), (.same, [1]), (.wr 1, []), (.same, []), (.same, []), (.wr 4, []), (.same, [1, 4]), (.wr 2, [])]
set_option linter.unusedVariables false
set_option linter.unusedSimpArgs false
set_option maxRecDepth 10000
namespace Go.Proofs.Ytkkhbmpcpilmfaa.VL
open Go Go.RowKit Go.Lib

theorem holM_PktP_11 : HolM 11 0 [(.same, [1]), (.same, [1]), (.same, []), (.wr 1, []), (.same, [1]), (.wr 1, []), (.same, [1]), (.wr 1, []), (.same, []), (.same, []), (.wr 4, []), (.same, [1, 4]), (.wr 2, [])] := ⟨⟩

theorem rdNum_at1 (b : List UInt8) (hbl : b.length ≤ 1048576) (s : Nat × Int) (n : Nat) (hn : n ≤ 4) (hs : s.1 ≤ b.length) (H : List Box) (x0 : Box) (N : List Box) :
    ASpec Try.prog 36 [.ptr (H.length + 1) 0 0, vi n] (H ++ (x0 :: rdX b s :: N)) (Gives (vi (rdN b s n)) (H ++ (x0 :: rdX b (rdT b s n).2 :: N))) := by
  have h := rdNum_spec b hbl s n hn hs (H.length + 1) (H ++ (x0 :: rdX b s :: N)) (by rw [List.getElem?_append_right (by omega)]; simp)
  have e : (H ++ (x0 :: rdX b s :: N)).set (H.length + 1) (rdX b (rdT b s n).2) = H ++ (x0 :: rdX b (rdT b s n).2 :: N) := by
    rw [List.set_append_right _ _ (by omega)]
    simp
  rw [e] at h
  exact h
theorem rdTake_at1 (b : List UInt8) (hbl : b.length ≤ 1048576) (s : Nat × Int) (n : Nat) (hn : n ≤ 65535) (hs : s.1 ≤ b.length) (H : List Box) (x0 : Box) (N : List Box) :
    ASpec Try.prog 38 [.ptr (H.length + 1) 0 0, vi n] (H ++ (x0 :: rdX b s :: N)) (Gives (vB (rdT b s n).1) (H ++ (x0 :: rdX b (rdT b s n).2 :: N))) := by
  have h := rdTake_spec b hbl s n hn hs (H.length + 1) (H ++ (x0 :: rdX b s :: N)) (by rw [List.getElem?_append_right (by omega)]; simp)
  have e : (H ++ (x0 :: rdX b s :: N)).set (H.length + 1) (rdX b (rdT b s n).2) = H ++ (x0 :: rdX b (rdT b s n).2 :: N) := by
    rw [List.set_append_right _ _ (by omega)]
    simp
  rw [e] at h
  exact h
theorem rdName_at1 (b : List UInt8) (hbl : b.length ≤ 1048576) (s : Nat × Int) (H : List Box) (x0 : Box) (N : List Box) :
    ASpec Try.prog 37 [.ptr (H.length + 1) 0 0] (H ++ (x0 :: rdX b s :: N)) (Gives (vs (rdM b s).1) (H ++ (x0 :: rdX b (rdM b s).2 :: N))) := by
  have h := rdName_spec b hbl s (H ++ [x0]) N
  rw [List.length_append, List.append_assoc, List.append_assoc] at h
  exact h

/-- The question that comes next. -/
def qnR (b : List UInt8) (s : Nat × Int) : Qn × (Nat × Int) :=
  (⟨(rdM b s).1, rdN b (rdM b s).2 2, rdN b (rdT b (rdM b s).2 2).2 2⟩, (rdT b (rdT b (rdM b s).2 2).2 2).2)
def qsR (b : List UInt8) : Nat → (Nat × Int) → List Qn → List Qn × (Nat × Int)
  | 0, s, acc => (acc, s)
  | k + 1, s, acc => if s.2 = 0 then qsR b k (qnR b s).2 (acc ++ [(qnR b s).1]) else (acc, s)
def qnF (l : List Qn) : List AV := flat (qnG l)
theorem qnF_length (l : List Qn) : (qnF l).length = l.length * 3 := by
  induction l with
  | nil => rfl
  | cons q l ih =>
    have e : qnF (q :: l) = qnC q ++ qnF l := rfl
    rw [e, List.length_append, ih, List.length_cons]
    simp [qnC]
    omega
theorem qnF_snoc (l : List Qn) (q : Qn) : qnF (l ++ [q]) = qnF l ++ qnC q := by
  induction l with
  | nil => simp [qnF, qnG, flat]
  | cons x l ih =>
    have e : ∀ l, qnF (x :: l) = qnC x ++ qnF l := fun _ => rfl
    rw [List.cons_append, e, e, ih, List.append_assoc]
theorem qnR_le (b : List UInt8) (s : Nat × Int) (hs : s.1 ≤ b.length) : (qnR b s).2.1 ≤ b.length := rdT_le b _ 2 (rdT_le b _ 2 (rdM_le b s hs))

/-- A packet that is being parsed. -/
abbrev ppX (H : List Box) (id fl : Int) (g : Nat) (l : List Qn) (c3 c4 c5 : AV) : Box := ⟨[vi id, vi fl, .sl (H.length + 4) g 0 l.length 3 false, c3, c4, c5], 0, 0, false⟩

set_option maxHeartbeats 4000000 in
theorem qsP_loop (b : List UInt8) (hbl : b.length ≤ 65535) (id fl : Int) (c3 c4 c5 : AV) (R C : Box) (ba bu bm : Box) (n0 : Nat) (hn0 : n0 ≤ 65535) (s0 : Nat × Int) (hs0 : s0.1 ≤ b.length)
    (E : Ent) (hE : E.n = 132) (Q : AExit → ASt → Prop) (body : Code) (hbody : (Try.f12.body).bind firstLoop = some body)
    (hQ : ∀ k g, Keeps k [(0, vB b), (2, .ptr E.H.length 0 0), (3, vi 0), (4, .ptr (E.H.length + 1) 0 0), (5, .ptr (E.H.length + 2) 0 0), (7, .ptr (E.H.length + 3) 0 0)] → (qsR b n0 s0 []).2.1 ≤ b.length → (qsR b n0 s0 []).1.length ≤ 65535 →
      Q (.exit 1) ⟨k, E.H ++ [R, rdX b (qsR b n0 s0 []).2, ppX E.H id fl g (qsR b n0 s0 []).1 c3 c4 c5, C, ⟨qnF (qsR b n0 s0 []).1, 0, g, true⟩, ba, bu, bm]⟩) :
    AWP Try.prog E (.loop body) Q ⟨[(0, vB b), (2, .ptr E.H.length 0 0), (3, vi 0), (4, .ptr (E.H.length + 1) 0 0), (5, .ptr (E.H.length + 2) 0 0), (6, vi n0), (7, .ptr (E.H.length + 3) 0 0)], E.H ++ [R, rdX b s0, ppX E.H id fl 0 [] c3 c4 c5, C, ⟨qnF [], 0, 0, true⟩, ba, bu, bm]⟩ := by
  have hnm := fun s H x0 N => rdName_at1 b (by omega) s H x0 N
  have hnu := fun s hs H x0 N => rdNum_at1 b (by omega) s 2 (by omega) hs H x0 N
  obtain ⟨base, n, w, H, β, hI⟩ := E
  dsimp only at *
  subst hE
  dsimp only [firstLoop, Option.bind, Try.f12] at hbody
  injection hbody with hbody
  subst hbody
  refine AWP.loop (ι := {p : Nat × (Nat × Int) × List Qn × Nat // qsR b p.1 p.2.1 p.2.2.1 = qsR b n0 s0 [] ∧ p.2.1.1 ≤ b.length ∧ p.2.2.1.length + p.1 ≤ 65535})
    (fun p => ⟨[(0, vB b), (2, .ptr H.length 0 0), (3, vi 0), (4, .ptr (H.length + 1) 0 0), (5, .ptr (H.length + 2) 0 0), (6, vi p.1.1), (7, .ptr (H.length + 3) 0 0)], H ++ [R, rdX b p.1.2.1, ppX H id fl p.1.2.2.2 p.1.2.2.1 c3 c4 c5, C, ⟨qnF p.1.2.2.1, 0, p.1.2.2.2, true⟩, ba, bu, bm]⟩) (fun p => p.1.1) ⟨(n0, s0, [], 0), rfl, hs0, by simpa using hn0⟩ ?_ ?_
  · dsimp only
    exact Coe.kp
  · rintro ⟨⟨k, s, acc, g⟩, hrel, hs, hlen⟩
    dsimp only at hrel hs hlen ⊢
    have hfl := qnF_length acc
    rcases k with _ | k
    · rw [qsR] at hrel
      rw [← hrel] at hQ
      refine wk wT (wA holM_PktP_11 wT) ?_
      refine hQ _ g ?_ hs (by dsimp only; omega)
      simp (disch := omega) only [Keeps, List.mem_cons, List.not_mem_nil, or_false, forall_eq_or_imp, forall_eq, go_sem, Nat.reduceBEq, Nat.reduceLT, Nat.reduceEqDiff, reduceIte, Nat.reduceAdd, Nat.reduceMul, Nat.reduceSub, Nat.reduceLeDiff, Int.reduceToNat, Int.reducePow, Int.reduceLT, Int.reduceEq, Int.reduceNeg, Nat.reducePow, List.reduceReplicate, Int.reduceLE]
    · rw [qsR] at hrel
      have hpos : (0 : Int) < ((k + 1 : Nat) : Int) := by omega
      have hsub : ((k + 1 : Nat) : Int) - 1 = (k : Int) := by omega
      by_cases he : s.2 = 0
      · rw [if_pos he] at hrel
        have hle1 := rdM_le b s hs
        have hle2 := rdT_le b (rdM b s).2 2 hle1
        have hsn := qnF_snoc acc (qnR b s).1
        have hle3 := qnR_le b s hs
        have n1 := hnm s H
        have n2 := hnu (rdM b s).2 hle1 H
        have n3 := hnu (rdT b (rdM b s).2 2).2 hle2 H
        have hqd : qnC (qnR b s).1 = [vs (rdM b s).1, vi (rdN b (rdM b s).2 2), vi (rdN b (rdT b (rdM b s).2 2).2 2)] := rfl
        have hqs : (qnR b s).2 = (rdT b (rdT b (rdM b s).2 2).2 2).2 := rfl
        rw [hqd] at hsn
        rw [hqs] at hrel hle3
        generalize (qnR b s).1 = q at *
        generalize rdN b (rdT b (rdM b s).2 2).2 2 = v3 at *
        generalize (rdT b (rdT b (rdM b s).2 2).2 2).2 = s3 at *
        generalize rdN b (rdM b s).2 2 = v2 at *
        generalize (rdT b (rdM b s).2 2).2 = s2 at *
        generalize rdM b s = x1 at *
        obtain ⟨v1, s1⟩ := x1
        dsimp only at *
        obtain ⟨a, e⟩ := s
        dsimp only at he hs
        subst he
        generalize hfq : qnF acc = F at *
        refine wk (wA hpos (wA hsub (wA hfl wT))) (wA n1 (wA n2 (wA n3 (wA holM_PktP_11 wT)))) ?_
        refine ⟨⟨(k, s3, acc ++ [q], g + 1), hrel, hle3, by dsimp only; rw [List.length_append, List.length_singleton]; omega⟩, ?_, by dsimp only; omega⟩
        dsimp only
        rw [hsn]
        simp only [ppX, List.length_append, List.length_singleton]
        exact Coe.kp
      · rw [if_neg he] at hrel
        rw [← hrel] at hQ
        refine wk (wA hpos (wA he wT)) (wA holM_PktP_11 wT) ?_
        refine hQ _ g ?_ hs (by dsimp only; omega)
        simp (disch := omega) only [Keeps, List.mem_cons, List.not_mem_nil, or_false, forall_eq_or_imp, forall_eq, go_sem, Nat.reduceBEq, Nat.reduceLT, Nat.reduceEqDiff, reduceIte, Nat.reduceAdd, Nat.reduceMul, Nat.reduceSub, Nat.reduceLeDiff, Int.reduceToNat, Int.reducePow, Int.reduceLT, Int.reduceEq, Int.reduceNeg, Nat.reducePow, List.reduceReplicate, Int.reduceLE]

end Go.Proofs.Ytkkhbmpcpilmfaa.VL

/- Layer 17: records that are read, in plain values. -/
set_option linter.unusedVariables false
set_option linter.unusedSimpArgs false
namespace Go.Proofs.Ytkkhbmpcpilmfaa.VL
open Go Go.RowKit Go.Lib

/-- The record that comes next. -/
def rrS (b : List UInt8) (s : Nat × Int) : Nat × Int := (rdT b (rdT b (rdT b (rdM b s).2 2).2 2).2 4).2
def rrR (b : List UInt8) (s : Nat × Int) : Rr × (Nat × Int) :=
  (⟨(rdM b s).1, rdN b (rdM b s).2 2, rdN b (rdT b (rdM b s).2 2).2 2, rdN b (rdT b (rdT b (rdM b s).2 2).2 2).2 4, (rdT b (rdT b (rrS b s) 2).2 (rdN b (rrS b s) 2)).1⟩, (rdT b (rdT b (rrS b s) 2).2 (rdN b (rrS b s) 2)).2)
def rsR (b : List UInt8) : Nat → (Nat × Int) → List Rr → List Rr × (Nat × Int)
  | 0, s, acc => (acc, s)
  | k + 1, s, acc => if s.2 = 0 then rsR b k (rrR b s).2 (acc ++ [(rrR b s).1]) else (acc, s)
def rrF (l : List Rr) : List AV := flat (rrG l)
theorem rrF_length (l : List Rr) : (rrF l).length = l.length * 5 := by
  induction l with
  | nil => rfl
  | cons q l ih =>
    have e : rrF (q :: l) = rrC q ++ rrF l := rfl
    rw [e, List.length_append, ih, List.length_cons]
    simp [rrC]
    omega
theorem rrF_snoc (l : List Rr) (q : Rr) : rrF (l ++ [q]) = rrF l ++ rrC q := by
  induction l with
  | nil => simp [rrF, rrG, flat]
  | cons x l ih =>
    have e : ∀ l, rrF (x :: l) = rrC x ++ rrF l := fun _ => rfl
    rw [List.cons_append, e, e, ih, List.append_assoc]
theorem lt_rrF {n : Nat} (l : List Rr) : ∀ c ∈ rrF l, Lt n c := by
  induction l with
  | nil => intro c hc; simp [rrF, rrG, flat] at hc
  | cons x l ih =>
    have e : rrF (x :: l) = rrC x ++ rrF l := rfl
    rw [e]
    intro c hc
    rcases List.mem_append.1 hc with h | h
    · simp only [rrC, List.mem_cons, List.not_mem_nil, or_false] at h
      rcases h with h | h | h | h | h <;> subst h <;> exact .v _
    · exact ih c h
theorem lt_qnF {n : Nat} (l : List Qn) : ∀ c ∈ qnF l, Lt n c := by
  induction l with
  | nil => intro c hc; simp [qnF, qnG, flat] at hc
  | cons x l ih =>
    have e : qnF (x :: l) = qnC x ++ qnF l := rfl
    rw [e]
    intro c hc
    rcases List.mem_append.1 hc with h | h
    · simp only [qnC, List.mem_cons, List.not_mem_nil, or_false] at h
      rcases h with h | h | h <;> subst h <;> exact .v _
    · exact ih c h
theorem rdN_lt (b : List UInt8) (s : Nat × Int) (n : Nat) : rdN b s n < 256 ^ n := numV_lt n _ (rdT_length b s n)
/-- What is read for a record, step by step. -/
theorem rrR_steps (b : List UInt8) (hbl : b.length ≤ 65535) (s : Nat × Int) (hs : s.1 ≤ b.length) (H : List Box) :
    ∃ (v1 : List UInt8) (s1 : Nat × Int) (v2 : Nat) (s2 : Nat × Int) (v3 : Nat) (s3 : Nat × Int) (v4 : Nat) (s4 : Nat × Int) (v5 : Nat) (s5 : Nat × Int) (v6 : List UInt8) (s6 : Nat × Int),
      (∀ x0 N, ASpec Try.prog 37 [.ptr (H.length + 1) 0 0] (H ++ (x0 :: rdX b s :: N)) (Gives (vs v1) (H ++ (x0 :: rdX b s1 :: N)))) ∧
      (∀ x0 N, ASpec Try.prog 36 [.ptr (H.length + 1) 0 0, vi 2] (H ++ (x0 :: rdX b s1 :: N)) (Gives (vi v2) (H ++ (x0 :: rdX b s2 :: N)))) ∧
      (∀ x0 N, ASpec Try.prog 36 [.ptr (H.length + 1) 0 0, vi 2] (H ++ (x0 :: rdX b s2 :: N)) (Gives (vi v3) (H ++ (x0 :: rdX b s3 :: N)))) ∧
      (∀ x0 N, ASpec Try.prog 36 [.ptr (H.length + 1) 0 0, vi 4] (H ++ (x0 :: rdX b s3 :: N)) (Gives (vi v4) (H ++ (x0 :: rdX b s4 :: N)))) ∧
      (∀ x0 N, ASpec Try.prog 36 [.ptr (H.length + 1) 0 0, vi 2] (H ++ (x0 :: rdX b s4 :: N)) (Gives (vi v5) (H ++ (x0 :: rdX b s5 :: N)))) ∧
      (∀ x0 N, ASpec Try.prog 38 [.ptr (H.length + 1) 0 0, vi v5] (H ++ (x0 :: rdX b s5 :: N)) (Gives (vB v6) (H ++ (x0 :: rdX b s6 :: N)))) ∧
      s6.1 ≤ b.length ∧ rrR b s = (⟨v1, v2, v3, v4, v6⟩, s6) := by
  have l1 := rdM_le b s hs
  have l2 := rdT_le b _ 2 l1
  have l3 := rdT_le b _ 2 l2
  have l4 := rdT_le b _ 4 l3
  have l5 := rdT_le b _ 2 l4
  have hv : rdN b (rrS b s) 2 < 65536 := rdN_lt b (rrS b s) 2
  have l6 := rdT_le b _ (rdN b (rrS b s) 2) l5
  exact ⟨_, _, _, _, _, _, _, _, _, _, _, _, fun x0 N => rdName_at1 b (by omega) s H x0 N, fun x0 N => rdNum_at1 b (by omega) _ 2 (by omega) l1 H x0 N, fun x0 N => rdNum_at1 b (by omega) _ 2 (by omega) l2 H x0 N, fun x0 N => rdNum_at1 b (by omega) _ 4 (by omega) l3 H x0 N,
    fun x0 N => rdNum_at1 b (by omega) _ 2 (by omega) l4 H x0 N, fun x0 N => rdTake_at1 b (by omega) (rdT b (rrS b s) 2).2 (rdN b (rrS b s) 2) (by omega) l5 H x0 N, l6, rfl⟩

end Go.Proofs.Ytkkhbmpcpilmfaa.VL

/- Layer 17: list 0 of records, as the program parses it. (Printed by gen_pktq.py.) -/
-- STEPWISE
-- WK
-- HWR
-- HOLE 19 0 [(.same, [5]), (.same, []), (.same, []), (.same, []), (.same, []), (.same, []), (.wr 5, []), (.same, [5]), (.wr 2, [])]
set_option linter.unusedVariables false
set_option linter.unusedSimpArgs false
set_option maxRecDepth 10000
namespace Go.Proofs.Ytkkhbmpcpilmfaa.VL
open Go Go.RowKit Go.Lib

theorem holM_PktQ0_19 : HolM 19 0 [(.same, [5]), (.same, []), (.same, []), (.same, []), (.same, []), (.same, []), (.wr 5, []), (.same, [5]), (.wr 2, [])] := ⟨⟩

set_option maxHeartbeats 8000000 in
theorem rsP_loop0 (b : List UInt8) (hbl : b.length ≤ 65535) (id fl : Int) (q2 c4 c5 arr : AV) (R bq b6 b7 : Box) (cn1 cn2 : Int) (k0 : Nat) (hk0 : k0 ≤ 65535) (s0 : Nat × Int) (hs0 : s0.1 ≤ b.length)
    (E : Ent) (hLB : ∀ bx ∈ [R, bq, b6, b7], ∀ c ∈ bx.cells, Lt (E.H.length + 8) c) (hLC : ∀ c ∈ [q2, c4, c5], Lt (E.H.length + 8) c) (hLA : Lt (E.H.length + 8) arr)
    (hE : E.n = 132) (Q : AExit → ASt → Prop) (body : Code) (hbody : ((Try.f12.body).bind lastLoop).bind firstLoop = some body)
    (hQ : ∀ k g (r : Nat), Keeps k [(0, vB b), (2, .ptr E.H.length 0 0), (3, vi 0), (4, .ptr (E.H.length + 1) 0 0), (5, .ptr (E.H.length + 2) 0 0), (7, .ptr (E.H.length + 3) 0 0), (61, arr), (62, vi 0)] → (rsR b k0 s0 []).2.1 ≤ b.length → (rsR b k0 s0 []).1.length ≤ 65535 →
      Q (.exit 5) ⟨k, E.H ++ [R, rdX b (rsR b k0 s0 []).2, ⟨[vi id, vi fl, q2, .sl (E.H.length + 5) g 0 (rsR b k0 s0 []).1.length 5 false, c4, c5], 0, 0, false⟩, ⟨[vi (r : Int), vi cn1, vi cn2], 0, 0, false⟩, bq, ⟨rrF (rsR b k0 s0 []).1, 0, g, true⟩, b6, b7]⟩) :
    AWP Try.prog E (.loop body) Q ⟨[(0, vB b), (2, .ptr E.H.length 0 0), (3, vi 0), (4, .ptr (E.H.length + 1) 0 0), (5, .ptr (E.H.length + 2) 0 0), (7, .ptr (E.H.length + 3) 0 0), (8, vi 0), (9, .ptr (E.H.length + 2) 0 3), (61, arr), (62, vi 0)], E.H ++ [R, rdX b s0, ⟨[vi id, vi fl, q2, .sl (E.H.length + 5) 0 0 0 5 false, c4, c5], 0, 0, false⟩, ⟨[vi (k0 : Int), vi cn1, vi cn2], 0, 0, false⟩, bq, ⟨rrF [], 0, 0, true⟩, b6, b7]⟩ := by
  have hnm := fun s H x0 N => rdName_at1 b (by omega) s H x0 N
  have hnu := fun s hs H x0 N => rdNum_at1 b (by omega) s 2 (by omega) hs H x0 N
  have hn4 := fun s hs H x0 N => rdNum_at1 b (by omega) s 4 (by omega) hs H x0 N
  have htk := fun s n hn hs H x0 N => rdTake_at1 b (by omega) s n hn hs H x0 N
  obtain ⟨base, n, w, H, β, hI⟩ := E
  dsimp only at *
  subst hE
  dsimp only [lastLoop, firstLoop, Option.bind, Try.f12] at hbody
  injection hbody with hbody
  subst hbody
  refine AWP.loop (ι := {p : Nat × (Nat × Int) × List Rr × Nat // rsR b p.1 p.2.1 p.2.2.1 = rsR b k0 s0 [] ∧ p.2.1.1 ≤ b.length ∧ p.2.2.1.length + p.1 ≤ 65535})
    (fun p => ⟨[(0, vB b), (2, .ptr H.length 0 0), (3, vi 0), (4, .ptr (H.length + 1) 0 0), (5, .ptr (H.length + 2) 0 0), (7, .ptr (H.length + 3) 0 0), (8, vi 0), (9, .ptr (H.length + 2) 0 3), (61, arr), (62, vi 0)], H ++ [R, rdX b p.1.2.1, ⟨[vi id, vi fl, q2, .sl (H.length + 5) p.1.2.2.2 0 p.1.2.2.1.length 5 false, c4, c5], 0, 0, false⟩, ⟨[vi (p.1.1 : Int), vi cn1, vi cn2], 0, 0, false⟩, bq, ⟨rrF p.1.2.2.1, 0, p.1.2.2.2, true⟩, b6, b7]⟩) (fun p => p.1.1) ⟨(k0, s0, [], 0), rfl, hs0, by simpa using hk0⟩ ?_ ?_
  · dsimp only
    exact Coe.kp
  · rintro ⟨⟨k, s, acc, g⟩, hrel, hs, hlen⟩
    dsimp only at hrel hs hlen ⊢
    have hfl := rrF_length acc
    rcases k with _ | k
    · rw [rsR] at hrel
      rw [← hrel] at hQ
      refine wk wT (wA holM_PktQ0_19 wT) ?_
      refine hQ _ g 0 ?_ hs (by dsimp only; omega)
      simp (disch := omega) only [Keeps, List.mem_cons, List.not_mem_nil, or_false, forall_eq_or_imp, forall_eq, go_sem, Nat.reduceBEq, Nat.reduceLT, Nat.reduceEqDiff, reduceIte, Nat.reduceAdd, Nat.reduceMul, Nat.reduceSub, Nat.reduceLeDiff, Int.reduceToNat, Int.reducePow, Int.reduceLT, Int.reduceEq, Int.reduceNeg, Nat.reducePow, List.reduceReplicate, Int.reduceLE]
    · rw [rsR] at hrel
      have hpos : (0 : Int) < ((k + 1 : Nat) : Int) := by omega
      have hsub : ((k + 1 : Nat) : Int) - 1 = (k : Int) := by omega
      by_cases he : s.2 = 0
      · rw [if_pos he] at hrel
        obtain ⟨v1, s1, v2, s2, v3, s3, v4, s4, v5, s5, v6, s6, n1, n2, n3, n4, n5, n6, hle, hr⟩ := rrR_steps b hbl s hs H
        rw [hr] at hrel
        have hsn := rrF_snoc acc ⟨v1, v2, v3, v4, v6⟩
        have hrc : rrC ⟨v1, v2, v3, v4, v6⟩ = [vs v1, vi v2, vi v3, vi v4, vs v6] := rfl
        rw [hrc] at hsn
        obtain ⟨a, e⟩ := s
        dsimp only at he hs
        subst he
        have hF := lt_rrF (n := H.length + 8) acc
        generalize hfq : rrF acc = F at *
        refine wk (wA hpos (wA hsub (wA hfl wT))) (wA n1 (wA n2 (wA n3 (wA n4 (wA n5 (wA n6 (wA holM_PktQ0_19 wT))))))) ?_
        refine ⟨⟨(k, s6, acc ++ [⟨v1, v2, v3, v4, v6⟩], g + 1), hrel, hle, by dsimp only; rw [List.length_append, List.length_singleton]; omega⟩, ?_, by dsimp only; omega⟩
        dsimp only
        rw [hsn]
        simp only [List.length_append, List.length_singleton]
        refine Coe.cutN (M := [_, _, _, _, _, _, _, _]) ?_ ?_ ?_
        · simp (disch := omega) only [Keeps, List.mem_cons, List.not_mem_nil, or_false, forall_eq_or_imp, forall_eq, go_sem, Nat.reduceBEq, Nat.reduceLT, Nat.reduceEqDiff, reduceIte, Nat.reduceAdd, Nat.reduceMul, Nat.reduceSub, Nat.reduceLeDiff, Int.reduceToNat, Int.reducePow, Int.reduceLT, Int.reduceEq, Int.reduceNeg, Nat.reducePow, List.reduceReplicate, Int.reduceLE]
        · simp only [List.mem_cons, List.not_mem_nil, or_false, forall_eq_or_imp, forall_eq, List.length_cons, List.length_nil, Nat.reduceAdd, Nat.zero_add]
          exact ⟨lt_bytes _, .ptr _ _ _ (by omega), .v _, .ptr _ _ _ (by omega), .ptr _ _ _ (by omega), .ptr _ _ _ (by omega), .v _, .ptr _ _ _ (by omega), hLA, .v _⟩
        · simp only [List.mem_cons, List.not_mem_nil, or_false, forall_eq_or_imp, forall_eq] at hLB hLC
          obtain ⟨lR, lbq, lb6, lb7⟩ := hLB
          obtain ⟨lq2, lc4, lc5⟩ := hLC
          simp only [List.mem_cons, List.not_mem_nil, or_false, forall_eq_or_imp, forall_eq, List.mem_append, or_imp, forall_and, List.length_cons, List.length_nil, Nat.reduceAdd, Nat.zero_add]
          exact ⟨lR, ⟨lt_bytes _, .v _, .v _⟩, ⟨.v _, .v _, lq2, .sl _ _ _ _ _ _ (by omega), lc4, lc5⟩, ⟨.v _, .v _, .v _⟩, lbq, ⟨hF, .v _, .v _, .v _, .v _, .v _⟩, lb6, lb7⟩
      · rw [if_neg he] at hrel
        rw [← hrel] at hQ
        refine wk (wA hpos (wA he wT)) (wA holM_PktQ0_19 wT) ?_
        refine hQ _ g (k + 1) ?_ hs (by dsimp only; omega)
        simp (disch := omega) only [Keeps, List.mem_cons, List.not_mem_nil, or_false, forall_eq_or_imp, forall_eq, go_sem, Nat.reduceBEq, Nat.reduceLT, Nat.reduceEqDiff, reduceIte, Nat.reduceAdd, Nat.reduceMul, Nat.reduceSub, Nat.reduceLeDiff, Int.reduceToNat, Int.reducePow, Int.reduceLT, Int.reduceEq, Int.reduceNeg, Nat.reducePow, List.reduceReplicate, Int.reduceLE]

end Go.Proofs.Ytkkhbmpcpilmfaa.VL

/- Layer 17: list 1 of records, as the program parses it. (Printed by gen_pktq.py.) -/
-- STEPWISE
-- WK
-- HWR
-- HOLE 19 0 [(.same, [6]), (.same, []), (.same, []), (.same, []), (.same, []), (.same, []), (.wr 6, []), (.same, [6]), (.wr 2, [])]
set_option linter.unusedVariables false
set_option linter.unusedSimpArgs false
set_option maxRecDepth 10000
namespace Go.Proofs.Ytkkhbmpcpilmfaa.VL
open Go Go.RowKit Go.Lib

theorem holM_PktQ1_19 : HolM 19 0 [(.same, [6]), (.same, []), (.same, []), (.same, []), (.same, []), (.same, []), (.wr 6, []), (.same, [6]), (.wr 2, [])] := ⟨⟩

set_option maxHeartbeats 8000000 in
theorem rsP_loop1 (b : List UInt8) (hbl : b.length ≤ 65535) (id fl : Int) (q2 c3 c5 arr : AV) (R bq b5 b7 : Box) (cn0 cn2 : Int) (k0 : Nat) (hk0 : k0 ≤ 65535) (s0 : Nat × Int) (hs0 : s0.1 ≤ b.length)
    (E : Ent) (hLB : ∀ bx ∈ [R, bq, b5, b7], ∀ c ∈ bx.cells, Lt (E.H.length + 8) c) (hLC : ∀ c ∈ [q2, c3, c5], Lt (E.H.length + 8) c) (hLA : Lt (E.H.length + 8) arr)
    (hE : E.n = 132) (Q : AExit → ASt → Prop) (body : Code) (hbody : ((Try.f12.body).bind lastLoop).bind firstLoop = some body)
    (hQ : ∀ k g (r : Nat), Keeps k [(0, vB b), (2, .ptr E.H.length 0 0), (3, vi 0), (4, .ptr (E.H.length + 1) 0 0), (5, .ptr (E.H.length + 2) 0 0), (7, .ptr (E.H.length + 3) 0 0), (61, arr), (62, vi 1)] → (rsR b k0 s0 []).2.1 ≤ b.length → (rsR b k0 s0 []).1.length ≤ 65535 →
      Q (.exit 5) ⟨k, E.H ++ [R, rdX b (rsR b k0 s0 []).2, ⟨[vi id, vi fl, q2, c3, .sl (E.H.length + 6) g 0 (rsR b k0 s0 []).1.length 5 false, c5], 0, 0, false⟩, ⟨[vi cn0, vi (r : Int), vi cn2], 0, 0, false⟩, bq, b5, ⟨rrF (rsR b k0 s0 []).1, 0, g, true⟩, b7]⟩) :
    AWP Try.prog E (.loop body) Q ⟨[(0, vB b), (2, .ptr E.H.length 0 0), (3, vi 0), (4, .ptr (E.H.length + 1) 0 0), (5, .ptr (E.H.length + 2) 0 0), (7, .ptr (E.H.length + 3) 0 0), (8, vi 1), (9, .ptr (E.H.length + 2) 0 4), (61, arr), (62, vi 1)], E.H ++ [R, rdX b s0, ⟨[vi id, vi fl, q2, c3, .sl (E.H.length + 6) 0 0 0 5 false, c5], 0, 0, false⟩, ⟨[vi cn0, vi (k0 : Int), vi cn2], 0, 0, false⟩, bq, b5, ⟨rrF [], 0, 0, true⟩, b7]⟩ := by
  have hnm := fun s H x0 N => rdName_at1 b (by omega) s H x0 N
  have hnu := fun s hs H x0 N => rdNum_at1 b (by omega) s 2 (by omega) hs H x0 N
  have hn4 := fun s hs H x0 N => rdNum_at1 b (by omega) s 4 (by omega) hs H x0 N
  have htk := fun s n hn hs H x0 N => rdTake_at1 b (by omega) s n hn hs H x0 N
  obtain ⟨base, n, w, H, β, hI⟩ := E
  dsimp only at *
  subst hE
  dsimp only [lastLoop, firstLoop, Option.bind, Try.f12] at hbody
  injection hbody with hbody
  subst hbody
  refine AWP.loop (ι := {p : Nat × (Nat × Int) × List Rr × Nat // rsR b p.1 p.2.1 p.2.2.1 = rsR b k0 s0 [] ∧ p.2.1.1 ≤ b.length ∧ p.2.2.1.length + p.1 ≤ 65535})
    (fun p => ⟨[(0, vB b), (2, .ptr H.length 0 0), (3, vi 0), (4, .ptr (H.length + 1) 0 0), (5, .ptr (H.length + 2) 0 0), (7, .ptr (H.length + 3) 0 0), (8, vi 1), (9, .ptr (H.length + 2) 0 4), (61, arr), (62, vi 1)], H ++ [R, rdX b p.1.2.1, ⟨[vi id, vi fl, q2, c3, .sl (H.length + 6) p.1.2.2.2 0 p.1.2.2.1.length 5 false, c5], 0, 0, false⟩, ⟨[vi cn0, vi (p.1.1 : Int), vi cn2], 0, 0, false⟩, bq, b5, ⟨rrF p.1.2.2.1, 0, p.1.2.2.2, true⟩, b7]⟩) (fun p => p.1.1) ⟨(k0, s0, [], 0), rfl, hs0, by simpa using hk0⟩ ?_ ?_
  · dsimp only
    exact Coe.kp
  · rintro ⟨⟨k, s, acc, g⟩, hrel, hs, hlen⟩
    dsimp only at hrel hs hlen ⊢
    have hfl := rrF_length acc
    rcases k with _ | k
    · rw [rsR] at hrel
      rw [← hrel] at hQ
      refine wk wT (wA holM_PktQ1_19 wT) ?_
      refine hQ _ g 0 ?_ hs (by dsimp only; omega)
      simp (disch := omega) only [Keeps, List.mem_cons, List.not_mem_nil, or_false, forall_eq_or_imp, forall_eq, go_sem, Nat.reduceBEq, Nat.reduceLT, Nat.reduceEqDiff, reduceIte, Nat.reduceAdd, Nat.reduceMul, Nat.reduceSub, Nat.reduceLeDiff, Int.reduceToNat, Int.reducePow, Int.reduceLT, Int.reduceEq, Int.reduceNeg, Nat.reducePow, List.reduceReplicate, Int.reduceLE]
    · rw [rsR] at hrel
      have hpos : (0 : Int) < ((k + 1 : Nat) : Int) := by omega
      have hsub : ((k + 1 : Nat) : Int) - 1 = (k : Int) := by omega
      by_cases he : s.2 = 0
      · rw [if_pos he] at hrel
        obtain ⟨v1, s1, v2, s2, v3, s3, v4, s4, v5, s5, v6, s6, n1, n2, n3, n4, n5, n6, hle, hr⟩ := rrR_steps b hbl s hs H
        rw [hr] at hrel
        have hsn := rrF_snoc acc ⟨v1, v2, v3, v4, v6⟩
        have hrc : rrC ⟨v1, v2, v3, v4, v6⟩ = [vs v1, vi v2, vi v3, vi v4, vs v6] := rfl
        rw [hrc] at hsn
        obtain ⟨a, e⟩ := s
        dsimp only at he hs
        subst he
        have hF := lt_rrF (n := H.length + 8) acc
        generalize hfq : rrF acc = F at *
        refine wk (wA hpos (wA hsub (wA hfl wT))) (wA n1 (wA n2 (wA n3 (wA n4 (wA n5 (wA n6 (wA holM_PktQ1_19 wT))))))) ?_
        refine ⟨⟨(k, s6, acc ++ [⟨v1, v2, v3, v4, v6⟩], g + 1), hrel, hle, by dsimp only; rw [List.length_append, List.length_singleton]; omega⟩, ?_, by dsimp only; omega⟩
        dsimp only
        rw [hsn]
        simp only [List.length_append, List.length_singleton]
        refine Coe.cutN (M := [_, _, _, _, _, _, _, _]) ?_ ?_ ?_
        · simp (disch := omega) only [Keeps, List.mem_cons, List.not_mem_nil, or_false, forall_eq_or_imp, forall_eq, go_sem, Nat.reduceBEq, Nat.reduceLT, Nat.reduceEqDiff, reduceIte, Nat.reduceAdd, Nat.reduceMul, Nat.reduceSub, Nat.reduceLeDiff, Int.reduceToNat, Int.reducePow, Int.reduceLT, Int.reduceEq, Int.reduceNeg, Nat.reducePow, List.reduceReplicate, Int.reduceLE]
        · simp only [List.mem_cons, List.not_mem_nil, or_false, forall_eq_or_imp, forall_eq, List.length_cons, List.length_nil, Nat.reduceAdd, Nat.zero_add]
          exact ⟨lt_bytes _, .ptr _ _ _ (by omega), .v _, .ptr _ _ _ (by omega), .ptr _ _ _ (by omega), .ptr _ _ _ (by omega), .v _, .ptr _ _ _ (by omega), hLA, .v _⟩
        · simp only [List.mem_cons, List.not_mem_nil, or_false, forall_eq_or_imp, forall_eq] at hLB hLC
          obtain ⟨lR, lbq, lb5, lb7⟩ := hLB
          obtain ⟨lq2, lc3, lc5⟩ := hLC
          simp only [List.mem_cons, List.not_mem_nil, or_false, forall_eq_or_imp, forall_eq, List.mem_append, or_imp, forall_and, List.length_cons, List.length_nil, Nat.reduceAdd, Nat.zero_add]
          exact ⟨lR, ⟨lt_bytes _, .v _, .v _⟩, ⟨.v _, .v _, lq2, lc3, .sl _ _ _ _ _ _ (by omega), lc5⟩, ⟨.v _, .v _, .v _⟩, lbq, lb5, ⟨hF, .v _, .v _, .v _, .v _, .v _⟩, lb7⟩
      · rw [if_neg he] at hrel
        rw [← hrel] at hQ
        refine wk (wA hpos (wA he wT)) (wA holM_PktQ1_19 wT) ?_
        refine hQ _ g (k + 1) ?_ hs (by dsimp only; omega)
        simp (disch := omega) only [Keeps, List.mem_cons, List.not_mem_nil, or_false, forall_eq_or_imp, forall_eq, go_sem, Nat.reduceBEq, Nat.reduceLT, Nat.reduceEqDiff, reduceIte, Nat.reduceAdd, Nat.reduceMul, Nat.reduceSub, Nat.reduceLeDiff, Int.reduceToNat, Int.reducePow, Int.reduceLT, Int.reduceEq, Int.reduceNeg, Nat.reducePow, List.reduceReplicate, Int.reduceLE]

end Go.Proofs.Ytkkhbmpcpilmfaa.VL

/- Layer 17: list 2 of records, as the program parses it. (Printed by gen_pktq.py.) -/
-- STEPWISE
-- WK
-- HWR
-- HOLE 19 0 [(.same, [7]), (.same, []), (.same, []), (.same, []), (.same, []), (.same, []), (.wr 7, []), (.same, [7]), (.wr 2, [])]
set_option linter.unusedVariables false
set_option linter.unusedSimpArgs false
set_option maxRecDepth 10000
namespace Go.Proofs.Ytkkhbmpcpilmfaa.VL
open Go Go.RowKit Go.Lib

theorem holM_PktQ2_19 : HolM 19 0 [(.same, [7]), (.same, []), (.same, []), (.same, []), (.same, []), (.same, []), (.wr 7, []), (.same, [7]), (.wr 2, [])] := ⟨⟩

set_option maxHeartbeats 8000000 in
theorem rsP_loop2 (b : List UInt8) (hbl : b.length ≤ 65535) (id fl : Int) (q2 c3 c4 arr : AV) (R bq b5 b6 : Box) (cn0 cn1 : Int) (k0 : Nat) (hk0 : k0 ≤ 65535) (s0 : Nat × Int) (hs0 : s0.1 ≤ b.length)
    (E : Ent) (hLB : ∀ bx ∈ [R, bq, b5, b6], ∀ c ∈ bx.cells, Lt (E.H.length + 8) c) (hLC : ∀ c ∈ [q2, c3, c4], Lt (E.H.length + 8) c) (hLA : Lt (E.H.length + 8) arr)
    (hE : E.n = 132) (Q : AExit → ASt → Prop) (body : Code) (hbody : ((Try.f12.body).bind lastLoop).bind firstLoop = some body)
    (hQ : ∀ k g (r : Nat), Keeps k [(0, vB b), (2, .ptr E.H.length 0 0), (3, vi 0), (4, .ptr (E.H.length + 1) 0 0), (5, .ptr (E.H.length + 2) 0 0), (7, .ptr (E.H.length + 3) 0 0), (61, arr), (62, vi 2)] → (rsR b k0 s0 []).2.1 ≤ b.length → (rsR b k0 s0 []).1.length ≤ 65535 →
      Q (.exit 5) ⟨k, E.H ++ [R, rdX b (rsR b k0 s0 []).2, ⟨[vi id, vi fl, q2, c3, c4, .sl (E.H.length + 7) g 0 (rsR b k0 s0 []).1.length 5 false], 0, 0, false⟩, ⟨[vi cn0, vi cn1, vi (r : Int)], 0, 0, false⟩, bq, b5, b6, ⟨rrF (rsR b k0 s0 []).1, 0, g, true⟩]⟩) :
    AWP Try.prog E (.loop body) Q ⟨[(0, vB b), (2, .ptr E.H.length 0 0), (3, vi 0), (4, .ptr (E.H.length + 1) 0 0), (5, .ptr (E.H.length + 2) 0 0), (7, .ptr (E.H.length + 3) 0 0), (8, vi 2), (9, .ptr (E.H.length + 2) 0 5), (61, arr), (62, vi 2)], E.H ++ [R, rdX b s0, ⟨[vi id, vi fl, q2, c3, c4, .sl (E.H.length + 7) 0 0 0 5 false], 0, 0, false⟩, ⟨[vi cn0, vi cn1, vi (k0 : Int)], 0, 0, false⟩, bq, b5, b6, ⟨rrF [], 0, 0, true⟩]⟩ := by
  have hnm := fun s H x0 N => rdName_at1 b (by omega) s H x0 N
  have hnu := fun s hs H x0 N => rdNum_at1 b (by omega) s 2 (by omega) hs H x0 N
  have hn4 := fun s hs H x0 N => rdNum_at1 b (by omega) s 4 (by omega) hs H x0 N
  have htk := fun s n hn hs H x0 N => rdTake_at1 b (by omega) s n hn hs H x0 N
  obtain ⟨base, n, w, H, β, hI⟩ := E
  dsimp only at *
  subst hE
  dsimp only [lastLoop, firstLoop, Option.bind, Try.f12] at hbody
  injection hbody with hbody
  subst hbody
  refine AWP.loop (ι := {p : Nat × (Nat × Int) × List Rr × Nat // rsR b p.1 p.2.1 p.2.2.1 = rsR b k0 s0 [] ∧ p.2.1.1 ≤ b.length ∧ p.2.2.1.length + p.1 ≤ 65535})
    (fun p => ⟨[(0, vB b), (2, .ptr H.length 0 0), (3, vi 0), (4, .ptr (H.length + 1) 0 0), (5, .ptr (H.length + 2) 0 0), (7, .ptr (H.length + 3) 0 0), (8, vi 2), (9, .ptr (H.length + 2) 0 5), (61, arr), (62, vi 2)], H ++ [R, rdX b p.1.2.1, ⟨[vi id, vi fl, q2, c3, c4, .sl (H.length + 7) p.1.2.2.2 0 p.1.2.2.1.length 5 false], 0, 0, false⟩, ⟨[vi cn0, vi cn1, vi (p.1.1 : Int)], 0, 0, false⟩, bq, b5, b6, ⟨rrF p.1.2.2.1, 0, p.1.2.2.2, true⟩]⟩) (fun p => p.1.1) ⟨(k0, s0, [], 0), rfl, hs0, by simpa using hk0⟩ ?_ ?_
  · dsimp only
    exact Coe.kp
  · rintro ⟨⟨k, s, acc, g⟩, hrel, hs, hlen⟩
    dsimp only at hrel hs hlen ⊢
    have hfl := rrF_length acc
    rcases k with _ | k
    · rw [rsR] at hrel
      rw [← hrel] at hQ
      refine wk wT (wA holM_PktQ2_19 wT) ?_
      refine hQ _ g 0 ?_ hs (by dsimp only; omega)
      simp (disch := omega) only [Keeps, List.mem_cons, List.not_mem_nil, or_false, forall_eq_or_imp, forall_eq, go_sem, Nat.reduceBEq, Nat.reduceLT, Nat.reduceEqDiff, reduceIte, Nat.reduceAdd, Nat.reduceMul, Nat.reduceSub, Nat.reduceLeDiff, Int.reduceToNat, Int.reducePow, Int.reduceLT, Int.reduceEq, Int.reduceNeg, Nat.reducePow, List.reduceReplicate, Int.reduceLE]
    · rw [rsR] at hrel
      have hpos : (0 : Int) < ((k + 1 : Nat) : Int) := by omega
      have hsub : ((k + 1 : Nat) : Int) - 1 = (k : Int) := by omega
      by_cases he : s.2 = 0
      · rw [if_pos he] at hrel
        obtain ⟨v1, s1, v2, s2, v3, s3, v4, s4, v5, s5, v6, s6, n1, n2, n3, n4, n5, n6, hle, hr⟩ := rrR_steps b hbl s hs H
        rw [hr] at hrel
        have hsn := rrF_snoc acc ⟨v1, v2, v3, v4, v6⟩
        have hrc : rrC ⟨v1, v2, v3, v4, v6⟩ = [vs v1, vi v2, vi v3, vi v4, vs v6] := rfl
        rw [hrc] at hsn
        obtain ⟨a, e⟩ := s
        dsimp only at he hs
        subst he
        have hF := lt_rrF (n := H.length + 8) acc
        generalize hfq : rrF acc = F at *
        refine wk (wA hpos (wA hsub (wA hfl wT))) (wA n1 (wA n2 (wA n3 (wA n4 (wA n5 (wA n6 (wA holM_PktQ2_19 wT))))))) ?_
        refine ⟨⟨(k, s6, acc ++ [⟨v1, v2, v3, v4, v6⟩], g + 1), hrel, hle, by dsimp only; rw [List.length_append, List.length_singleton]; omega⟩, ?_, by dsimp only; omega⟩
        dsimp only
        rw [hsn]
        simp only [List.length_append, List.length_singleton]
        refine Coe.cutN (M := [_, _, _, _, _, _, _, _]) ?_ ?_ ?_
        · simp (disch := omega) only [Keeps, List.mem_cons, List.not_mem_nil, or_false, forall_eq_or_imp, forall_eq, go_sem, Nat.reduceBEq, Nat.reduceLT, Nat.reduceEqDiff, reduceIte, Nat.reduceAdd, Nat.reduceMul, Nat.reduceSub, Nat.reduceLeDiff, Int.reduceToNat, Int.reducePow, Int.reduceLT, Int.reduceEq, Int.reduceNeg, Nat.reducePow, List.reduceReplicate, Int.reduceLE]
        · simp only [List.mem_cons, List.not_mem_nil, or_false, forall_eq_or_imp, forall_eq, List.length_cons, List.length_nil, Nat.reduceAdd, Nat.zero_add]
          exact ⟨lt_bytes _, .ptr _ _ _ (by omega), .v _, .ptr _ _ _ (by omega), .ptr _ _ _ (by omega), .ptr _ _ _ (by omega), .v _, .ptr _ _ _ (by omega), hLA, .v _⟩
        · simp only [List.mem_cons, List.not_mem_nil, or_false, forall_eq_or_imp, forall_eq] at hLB hLC
          obtain ⟨lR, lbq, lb5, lb6⟩ := hLB
          obtain ⟨lq2, lc3, lc4⟩ := hLC
          simp only [List.mem_cons, List.not_mem_nil, or_false, forall_eq_or_imp, forall_eq, List.mem_append, or_imp, forall_and, List.length_cons, List.length_nil, Nat.reduceAdd, Nat.zero_add]
          exact ⟨lR, ⟨lt_bytes _, .v _, .v _⟩, ⟨.v _, .v _, lq2, lc3, lc4, .sl _ _ _ _ _ _ (by omega)⟩, ⟨.v _, .v _, .v _⟩, lbq, lb5, lb6, ⟨hF, .v _, .v _, .v _, .v _, .v _⟩⟩
      · rw [if_neg he] at hrel
        rw [← hrel] at hQ
        refine wk (wA hpos (wA he wT)) (wA holM_PktQ2_19 wT) ?_
        refine hQ _ g (k + 1) ?_ hs (by dsimp only; omega)
        simp (disch := omega) only [Keeps, List.mem_cons, List.not_mem_nil, or_false, forall_eq_or_imp, forall_eq, go_sem, Nat.reduceBEq, Nat.reduceLT, Nat.reduceEqDiff, reduceIte, Nat.reduceAdd, Nat.reduceMul, Nat.reduceSub, Nat.reduceLeDiff, Int.reduceToNat, Int.reducePow, Int.reduceLT, Int.reduceEq, Int.reduceNeg, Nat.reducePow, List.reduceReplicate, Int.reduceLE]

end Go.Proofs.Ytkkhbmpcpilmfaa.VL

/- Layer 17: a parsed packet's lists are only read from now on. -/
set_option linter.unusedVariables false
set_option linter.unusedSimpArgs false
namespace Go.Proofs.Ytkkhbmpcpilmfaa.VL
open Go Go.RowKit Go.Lib

theorem chunk_qnF : ∀ (l : List Qn), chunk 3 l.length (qnF l) = qnG l
  | [] => rfl
  | x :: l => by
    have e : qnF (x :: l) = qnC x ++ qnF l := rfl
    rw [List.length_cons, chunk, e]
    show qnC x :: chunk 3 l.length (qnF l) = _
    rw [chunk_qnF l]
    rfl
theorem chunk_rrF : ∀ (l : List Rr), chunk 5 l.length (rrF l) = rrG l
  | [] => rfl
  | x :: l => by
    have e : rrF (x :: l) = rrC x ++ rrF l := rfl
    rw [List.length_cons, chunk, e]
    show rrC x :: chunk 5 l.length (rrF l) = _
    rw [chunk_rrF l]
    rfl
theorem app_get {H N : List Box} (k i : Nat) (h : k = H.length + i) : (H ++ N)[k]? = N[i]? := by
  subst h; rw [List.getElem?_append_right (by omega)]; congr 1; omega
theorem app_set {H N : List Box} {x : Box} (k i : Nat) (h : k = H.length + i) : (H ++ N).set k x = H ++ N.set i x := by
  subst h; rw [List.set_append_right _ _ (by omega)]; congr 2; omega

theorem Coe.frzPk {E : Ent} {l : List (Nat × AV)} {R X C : Box} (p : Pk) (gq ga gu gm : Nat) :
    Coe E ⟨l, E.H ++ [R, X, ⟨[vi p.id, vi p.fl, .sl (E.H.length + 4) gq 0 p.q.length 3 false, .sl (E.H.length + 5) ga 0 p.a.length 5 false, .sl (E.H.length + 6) gu 0 p.u.length 5 false, .sl (E.H.length + 7) gm 0 p.m.length 5 false], 0, 0, false⟩, C,
        ⟨qnF p.q, 0, gq, true⟩, ⟨rrF p.a, 0, ga, true⟩, ⟨rrF p.u, 0, gu, true⟩, ⟨rrF p.m, 0, gm, true⟩]⟩
      ⟨l, E.H ++ [R, X, ⟨pkC p, 0, 0, false⟩, C, ⟨qnF p.q, p.q.length * 3, gq, true⟩, ⟨rrF p.a, p.a.length * 5, ga, true⟩, ⟨rrF p.u, p.u.length * 5, gu, true⟩, ⟨rrF p.m, p.m.length * 5, gm, true⟩]⟩ := by
  have hq := qnF_length p.q
  have ha := rrF_length p.a
  have hu := rrF_length p.u
  have hm := rrF_length p.m
  refine Coe.trans (Coe.freezeCell (k := E.H.length + 2) (j := 2) (m := E.H.length + 4) (g := gq) (n := p.q.length) (sz := 3) (app_get _ 2 rfl) rfl (app_get _ 4 rfl) rfl (by omega) (by dsimp only; omega) (chunk_qnF p.q)) ?_
  rw [app_set _ 4 rfl, app_set _ 2 rfl]
  simp only [List.set_cons_succ, List.set_cons_zero, Nat.zero_max]
  refine Coe.trans (Coe.freezeCell (k := E.H.length + 2) (j := 3) (m := E.H.length + 5) (g := ga) (n := p.a.length) (sz := 5) (app_get _ 2 rfl) rfl (app_get _ 5 rfl) rfl (by omega) (by dsimp only; omega) (chunk_rrF p.a)) ?_
  rw [app_set _ 5 rfl, app_set _ 2 rfl]
  simp only [List.set_cons_succ, List.set_cons_zero, Nat.zero_max]
  refine Coe.trans (Coe.freezeCell (k := E.H.length + 2) (j := 4) (m := E.H.length + 6) (g := gu) (n := p.u.length) (sz := 5) (app_get _ 2 rfl) rfl (app_get _ 6 rfl) rfl (by omega) (by dsimp only; omega) (chunk_rrF p.u)) ?_
  rw [app_set _ 6 rfl, app_set _ 2 rfl]
  simp only [List.set_cons_succ, List.set_cons_zero, Nat.zero_max]
  refine Coe.trans (Coe.freezeCell (k := E.H.length + 2) (j := 5) (m := E.H.length + 7) (g := gm) (n := p.m.length) (sz := 5) (app_get _ 2 rfl) rfl (app_get _ 7 rfl) rfl (by omega) (by dsimp only; omega) (chunk_rrF p.m)) ?_
  rw [app_set _ 7 rfl, app_set _ 2 rfl]
  simp only [List.set_cons_succ, List.set_cons_zero, Nat.zero_max]
  exact Coe.refl _ _

end Go.Proofs.Ytkkhbmpcpilmfaa.VL

/- Layer 17: what a packet's bytes are, in plain values; lengths. -/
import Derived.Test.YtkkhbmpcpilmfaaZPktE
import Derived.Test.YtkkhbmpcpilmfaaZPktC
import Derived.Test.YtkkhbmpcpilmfaaZSb
import Derived.Test.YtkkhbmpcpilmfaaZCd
set_option linter.unusedVariables false
set_option linter.unusedSimpArgs false
namespace Go.Proofs.Ytkkhbmpcpilmfaa.VL
open Go Go.RowKit Go.Lib

def qnN (q : Qn) : List Int := [q.t, q.c]
def qnB (q : Qn) : List UInt8 := q.n ++ twoB (qnN q)
def qsB (l : List Qn) : List UInt8 := l.flatMap qnB
/-- Records behind bytes, as long as there is room: the bytes, how many, and whether there was none. -/
def fillR (p : Pk) (lim : Int) : List UInt8 → List Rr → List UInt8 × Nat × Bool
  | acc, [] => (acc, 0, false)
  | acc, r :: l => if lim < ((acc ++ rrB p r).length : Int) then (acc, 0, true) else ((fillR p lim (acc ++ rrB p r) l).1, (fillR p lim (acc ++ rrB p r) l).2.1 + 1, (fillR p lim (acc ++ rrB p r) l).2.2)
def fill1 (p : Pk) (lim : Int) : List UInt8 × Nat × Bool := fillR p lim (zerosB 12 ++ qsB p.q) p.a
def fill2 (p : Pk) (lim : Int) : List UInt8 × Nat × Bool := if (fill1 p lim).2.2 then ((fill1 p lim).1, 0, true) else fillR p lim (fill1 p lim).1 p.u
def fill3 (p : Pk) (lim : Int) : List UInt8 × Nat × Bool := if (fill2 p lim).2.2 then ((fill2 p lim).1, 0, true) else fillR p lim (fill2 p lim).1 p.m
def hdN (p : Pk) (lim : Int) : List Int := [p.id, if (fill3 p lim).2.2 then ior .i64 p.fl 512 else p.fl, p.q.length, (fill1 p lim).2.1, (fill2 p lim).2.1, (fill3 p lim).2.1]
/-- A packet's bytes within a limit. -/
def bldP (p : Pk) (lim : Int) : List UInt8 × Int :=
  if pOk p = false then ([], 1) else if lim < ((zerosB 12 ++ qsB p.q).length : Int) then ([], 4) else (twoB (hdN p lim) ++ (fill3 p lim).1.drop 12, 0)

/-- Lengths. -/
structure ROk (r : Rr) : Prop where
  n0 : 0 < r.n.length
  n : r.n.length ≤ 255
  d : r.d.length ≤ 1000
theorem lab_len {s : List UInt8} (h : (lab s).isSome = true) : 0 < s.length ∧ s.length ≤ 255 := by
  obtain ⟨l, hl⟩ := Option.isSome_iff_exists.1 h
  obtain ⟨e, _, h3⟩ := lab_some hl
  rw [e, List.length_append, List.length_singleton]
  omega
theorem rOk_len {r : Rr} (h : rOk r = true) : ROk r := by
  unfold rOk at h
  simp only [Bool.and_eq_true, decide_eq_true_eq] at h
  obtain ⟨h1, h2⟩ := lab_len h.1
  exact ⟨h1, h2, h.2.2.2.2⟩
theorem qOk_len {q : Qn} (h : qOk q = true) : 0 < q.n.length ∧ q.n.length ≤ 255 := by
  unfold qOk at h
  simp only [Bool.and_eq_true] at h
  exact lab_len h.1
structure POk (p : Pk) : Prop where
  q : ∀ q ∈ p.q, 0 < q.n.length ∧ q.n.length ≤ 255
  a : ∀ r ∈ p.a, ROk r
  u : ∀ r ∈ p.u, ROk r
  m : ∀ r ∈ p.m, ROk r
  lq : p.q.length ≤ 100
  la : p.a.length ≤ 100
  lu : p.u.length ≤ 100
  lm : p.m.length ≤ 100
theorem pOk_len {p : Pk} (h : pOk p = true) : POk p := by
  unfold pOk qsOk rsOk at h
  simp only [Bool.and_eq_true, decide_eq_true_eq, List.all_eq_true] at h
  obtain ⟨_, _, ⟨h1, h2⟩, ⟨h3, h4⟩, ⟨h5, h6⟩, h7, h8⟩ := h
  exact ⟨fun q hq => qOk_len (h2 q hq), fun r hr => rOk_len (h4 r hr), fun r hr => rOk_len (h6 r hr), fun r hr => rOk_len (h8 r hr), h1, h3, h5, h7⟩
theorem nmB_len (p : Pk) {r : Rr} (h : ROk r) : (nmB p r).length ≤ 255 := by
  have := h.n
  unfold nmB
  split
  · simp
  · exact this
theorem rrB_len (p : Pk) {r : Rr} (h : ROk r) : (rrB p r).length ≤ 1265 := by
  have h1 := nmB_len p h
  have h2 := h.d
  have h3 : (twoB (rrN r)).length = 10 := by rw [twoB_length]; rfl
  rw [rrB, List.length_append, List.length_append, h3]
  omega
theorem qnB_len {q : Qn} (h : q.n.length ≤ 255) : (qnB q).length ≤ 259 := by
  have h3 : (twoB (qnN q)).length = 4 := by rw [twoB_length]; rfl
  rw [qnB, List.length_append, h3]
  omega
theorem qsB_len : ∀ (l : List Qn), (∀ q ∈ l, q.n.length ≤ 255) → (qsB l).length ≤ 259 * l.length
  | [], _ => by simp [qsB]
  | q :: l, h => by
    have e : qsB (q :: l) = qnB q ++ qsB l := by simp [qsB]
    have h1 := qnB_len (h q (by simp))
    have h2 := qsB_len l fun x hx => h x (by simp [hx])
    rw [e, List.length_append, List.length_cons]
    omega
theorem qsB_snoc (l : List Qn) (q : Qn) : qsB (l ++ [q]) = qsB l ++ qnB q := by simp [qsB]
theorem fillR_len (p : Pk) (lim : Int) : ∀ (l : List Rr) (acc : List UInt8), (∀ r ∈ l, ROk r) → acc.length ≤ (fillR p lim acc l).1.length ∧ (fillR p lim acc l).1.length ≤ acc.length + 1265 * l.length ∧ (fillR p lim acc l).2.1 ≤ l.length
  | [], acc, _ => by simp [fillR]
  | r :: l, acc, h => by
    rw [fillR]
    split
    · simp
    · have h1 := rrB_len p (h r (by simp))
      obtain ⟨i1, i2, i3⟩ := fillR_len p lim l (acc ++ rrB p r) fun x hx => h x (by simp [hx])
      rw [List.length_append] at i1 i2
      simp only [List.length_cons]
      omega
theorem fillR_drop {p : Pk} {lim : Int} {acc : List UInt8} {l : List Rr} {j : Nat} {r : Rr} (h : l[j]? = some r) : fillR p lim acc (l.drop j) = if lim < ((acc ++ rrB p r).length : Int) then (acc, 0, true) else ((fillR p lim (acc ++ rrB p r) (l.drop (j + 1))).1, (fillR p lim (acc ++ rrB p r) (l.drop (j + 1))).2.1 + 1, (fillR p lim (acc ++ rrB p r) (l.drop (j + 1))).2.2) := by
  have hi := (List.getElem?_eq_some_iff.1 h).1
  rw [List.drop_eq_getElem_cons hi, fillR, (List.getElem?_eq_some_iff.1 h).2]

end Go.Proofs.Ytkkhbmpcpilmfaa.VL

/- Layer 17: the questions' bytes, as the program lays them. -/
-- STEPWISE
-- WK
-- HWR
-- HOLE 7 0 [(.same, []), (.same, []), (.same, []), (.wr 1, []), (.same, [1]), (.same, [1]), (.same, [1]), (.same, [1]), (.same, [1]), (.wr 1, []), (.same, [])]
set_option linter.unusedVariables false
set_option linter.unusedSimpArgs false
set_option maxRecDepth 10000
namespace Go.Proofs.Ytkkhbmpcpilmfaa.VL
open Go Go.RowKit Go.Lib

theorem holM_PktF_7 : HolM 7 0 [(.same, []), (.same, []), (.same, []), (.wr 1, []), (.same, [1]), (.same, [1]), (.same, [1]), (.same, [1]), (.same, [1]), (.wr 1, []), (.same, [])] := ⟨⟩

theorem Coe.loose {E : Ent} {l l' : List (Nat × AV)} {H : List Box} {b g o n sz t : Nat} (hl : lk l t = .sl b g o n sz true) (h : Keeps ((t, .sl b g o n sz false) :: l) l') : Coe E ⟨l, H⟩ ⟨l', H⟩ :=
  Coe.trans (σ' := ⟨(t, .sl b g o n sz false) :: l, H⟩) (fun a w ⟨β, hs⟩ => by
    refine ⟨β, ⟨hs.defers, hs.size, hs.inv, hs.stp, fun k => ?_⟩⟩
    dsimp only
    rw [lk_cons]
    split
    · rename_i hk
      subst hk
      have := hs.tmps t
      dsimp only at this
      rw [hl] at this
      generalize a.tmps.getD t undef = v at this
      cases this with
      | sl _ _ _ _ _ _ _ bx hb hg hx h =>
        refine .sl _ _ _ _ _ _ _ bx hb hg hx fun e => ?_
        obtain ⟨a, cap, h1, h2, h3, h4⟩ := h e
        exact ⟨a, cap, h1, h2, fun h => by simp at h, h4⟩
    · exact hs.tmps k) (Coe.keep h)

theorem lt_bytesM {n : Nat} (bs : List UInt8) : ∀ c ∈ bytesC bs, Lt n c := fun c hc => by
  obtain ⟨i, hi⟩ := List.mem_iff_getElem?.1 hc
  exact (bytesC_lt bs i c hi).mono (Nat.zero_le _)
theorem lt_pkC {n : Nat} (p : Pk) : ∀ c ∈ pkC p, Lt n c := by
  simp only [pkC, List.mem_cons, List.not_mem_nil, or_false, forall_eq_or_imp, forall_eq]
  exact ⟨.v _, .v _, lt_qn _, lt_rr _, lt_rr _, lt_rr _⟩

theorem two_at1 (g : Nat) (bs : List UInt8) (l : List Int) (hbs : bs.length ≤ 1099511627776) (hl : l.length ≤ 1048576) (H : List Box) (x0 x1 : Box) :
    ASpec Try.prog 30 [.sl (H.length + 1) g 0 bs.length 1 false, vI l] (H ++ [x0, ⟨bytesC bs, 0, g, true⟩, x1]) (fun o H' => o = .ret (.sl (H.length + 1) (g + l.length) 0 (bs ++ twoB l).length 1 false) ∧ H' = H ++ [x0, ⟨bytesC (bs ++ twoB l), 0, g + l.length, true⟩, x1]) := by
  have h := two_spec (H.length + 1) g bs l hbs hl (H ++ [x0, ⟨bytesC bs, 0, g, true⟩, x1]) (by rw [List.getElem?_append_right (by omega)]; simp)
  have e : (H ++ [x0, ⟨bytesC bs, 0, g, true⟩, x1]).set (H.length + 1) ⟨bytesC (bs ++ twoB l), 0, g + l.length, true⟩ = H ++ [x0, ⟨bytesC (bs ++ twoB l), 0, g + l.length, true⟩, x1] := by
    rw [List.set_append_right _ _ (by omega)]
    simp
  rw [e] at h
  exact h

set_option maxHeartbeats 4000000 in
theorem qs_loop (p : Pk) (lim : Int) (hq : ∀ q ∈ p.q, 0 < q.n.length ∧ q.n.length ≤ 255) (hl : p.q.length ≤ 100)
    (E : Ent) (hE : E.n = 94) (Q : AExit → ASt → Prop) (body : Code) (hbody : (Try.f10.body).bind firstLoop = some body)
    (hQ : ∀ k, Keeps k [(1, vi lim), (2, .ptr E.H.length 0 0), (6, .sl (E.H.length + 1) (p.q.length * 3) 0 (zerosB 12 ++ qsB p.q).length 1 false)] → Q (.exit 0) ⟨k, E.H ++ [⟨pkC p, 0, 0, false⟩, ⟨bytesC (zerosB 12 ++ qsB p.q), 0, p.q.length * 3, true⟩]⟩) :
    AWP Try.prog E (.loop body) Q ⟨[(1, vi lim), (2, .ptr E.H.length 0 0), (6, .sl (E.H.length + 1) 0 0 12 1 false), (21, .lst 3 (qnG p.q)), (22, vi p.q.length), (23, vi 0)], E.H ++ [⟨pkC p, 0, 0, false⟩, ⟨bytesC (zerosB 12), 0, 0, true⟩]⟩ := by
  obtain ⟨id, fl, q, a, u, m⟩ := p
  obtain ⟨base, n, w, H, β, hI⟩ := E
  dsimp only at *
  subst hE
  dsimp only [firstLoop, Option.bind, Try.f10] at hbody
  injection hbody with hbody
  subst hbody
  generalize hpx : (⟨pkC ⟨id, fl, q, a, u, m⟩, 0, 0, false⟩ : Box) = pbx at *
  refine AWP.loop (ι := {i : Nat // i ≤ q.length}) (fun p => ⟨[(1, vi lim), (2, .ptr H.length 0 0), (6, .sl (H.length + 1) (p.1 * 3) 0 (zerosB 12 ++ qsB (q.take p.1)).length 1 false), (21, .lst 3 (qnG q)), (22, vi q.length), (23, vi p.1)], H ++ [pbx, ⟨bytesC (zerosB 12 ++ qsB (q.take p.1)), 0, p.1 * 3, true⟩]⟩) (fun p => q.length - p.1) ⟨0, Nat.zero_le _⟩ ?_ ?_
  · have e0 : zerosB 12 ++ qsB (q.take 0) = zerosB 12 := by simp [qsB]
    dsimp only
    rw [e0, Nat.zero_mul]
    exact Coe.kp
  · rintro ⟨i, hi⟩
    dsimp only
    by_cases hc : (i : Int) < (q.length : Int)
    · have hg : q[i]? = some q[i] := List.getElem?_eq_getElem (by omega)
      have hm := hq q[i] (List.getElem_mem _)
      generalize q[i] = x at hg hm
      have hsn := qsB_snoc (q.take i) x
      rw [← take_snoc hg] at hsn
      have hlen := qsB_len (q.take i) fun y hy => (hq y (List.mem_of_mem_take hy)).2
      rw [List.length_take] at hlen
      have hz : (zerosB 12).length = 12 := by simp [zerosB]
      have hal : (zerosB 12 ++ qsB (q.take i)).length ≤ 26000 := by rw [List.length_append, hz]; omega
      generalize hacc : zerosB 12 ++ qsB (q.take i) = acc at *
      have e3 : zerosB 12 ++ qsB (q.take (i + 1)) = acc ++ qnB x := by rw [hsn, ← List.append_assoc, hacc]
      obtain ⟨xn, xt, xc⟩ := x
      dsimp only at hm
      have hqb : qnB ⟨xn, xt, xc⟩ = xn ++ twoB [xt, xc] := rfl
      rw [hqb] at e3
      generalize htwE : twoB [xt, xc] = tw at *
      have htwl : tw.length = 4 := by rw [← htwE, twoB_length]; rfl
      have htw : ∀ (x0 x1 : Box) (bs' : List UInt8), bs'.length ≤ 1099511627776 → ASpec Try.prog 30 [.sl (H.length + 1) (i * 3 + 1) 0 bs'.length 1 false, .lst 1 [[vi xt], [vi xc]]] (H ++ [x0, ⟨bytesC bs', 0, i * 3 + 1, true⟩, x1])
          (fun o H' => o = .ret (.sl (H.length + 1) (i * 3 + 1 + 2) 0 (bs' ++ tw).length 1 false) ∧ H' = H ++ [x0, ⟨bytesC (bs' ++ tw), 0, i * 3 + 1 + 2, true⟩, x1]) := fun x0 x1 bs' hbs' => by
        have h := two_at1 (i * 3 + 1) bs' [xt, xc] hbs' (by simp) H x0 x1
        rw [htwE] at h
        exact h
      have e1 : bytesC acc ++ bytesC xn = bytesC (acc ++ xn) := by simp [bytesC]
      have e2 : (acc ++ xn).length = acc.length + xn.length := List.length_append
      have hw := fun x0 x1 => htw x0 x1 (acc ++ xn) (by omega)
      refine wk (wA hc (wA hg (wA e1 (wA (Eq.symm e2) wT)))) (wA hw (wA holM_PktF_7 wT)) ?_
      refine ⟨⟨i + 1, by omega⟩, ?_, by dsimp only; omega⟩
      dsimp only
      rw [e3, ← List.append_assoc, Nat.add_mul, Nat.one_mul]
      refine Coe.cutN (M := [_, _]) ?_ ?_ ?_
      · simp (disch := omega) only [Keeps, List.mem_cons, List.not_mem_nil, or_false, forall_eq_or_imp, forall_eq, Int.natCast_add, Int.natCast_one, go_sem, Nat.reduceBEq, Nat.reduceLT, Nat.reduceEqDiff, reduceIte, Nat.reduceAdd, Nat.reduceMul, Nat.reduceSub, Nat.reduceLeDiff, Int.reduceToNat, Int.reducePow, Int.reduceLT, Int.reduceEq, Int.reduceNeg, Nat.reducePow, List.reduceReplicate, Int.reduceLE]
      · simp only [List.mem_cons, List.not_mem_nil, or_false, forall_eq_or_imp, forall_eq, List.length_cons, List.length_nil]
        exact ⟨.v _, .ptr _ _ _ (by omega), .sl _ _ _ _ _ _ (by omega), lt_qn _, .v _, .v _⟩
      · simp only [List.mem_cons, List.not_mem_nil, or_false, forall_eq_or_imp, forall_eq, List.length_cons, List.length_nil]
        refine ⟨?_, lt_bytesM _⟩
        rw [← hpx]
        exact lt_pkC _
    · have : i = q.length := by omega
      subst this
      rw [List.take_length]
      refine wk (wA hc wT) (wA holM_PktF_7 wT) ?_
      refine hQ _ ?_
      simp (disch := omega) only [Keeps, List.mem_cons, List.not_mem_nil, or_false, forall_eq_or_imp, forall_eq, go_sem, Nat.reduceBEq, Nat.reduceLT, Nat.reduceEqDiff, reduceIte, Nat.reduceAdd, Nat.reduceMul, Nat.reduceSub, Nat.reduceLeDiff, Int.reduceToNat, Int.reducePow, Int.reduceLT, Int.reduceEq, Int.reduceNeg, Nat.reducePow, List.reduceReplicate, Int.reduceLE]

end Go.Proofs.Ytkkhbmpcpilmfaa.VL

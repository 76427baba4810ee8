/- Layer 17: a record's bytes behind others. -/
import Derived.Test.YtkkhbmpcpilmfaaZCd
import Derived.Test.YtkkhbmpcpilmfaaZPktD
import Derived.Test.YtkkhbmpcpilmfaaZLabC
-- STEPWISE
-- WK
-- HWR
-- HOLE 4 0 [(.same, []), (.same, []), (.same, []), (.same, []), (.same, []), (.same, []), (.same, []), (.same, []), (.same, []), (.same, []), (.same, []), (.same, []), (.same, []), (.same, []), (.wr 2, []), (.same, [2]), (.same, [2]), (.wr 2, []), (.same, [])]
set_option linter.unusedVariables false
set_option linter.unusedSimpArgs false
set_option maxRecDepth 10000
namespace Go.Proofs.Ytkkhbmpcpilmfaa.VL
open Go Go.RowKit Go.Lib

theorem holM_PktE_4 : HolM 4 0 [(.same, []), (.same, []), (.same, []), (.same, []), (.same, []), (.same, []), (.same, []), (.same, []), (.same, []), (.same, []), (.same, []), (.same, []), (.same, []), (.same, []), (.wr 2, []), (.same, [2]), (.same, [2]), (.wr 2, []), (.same, [])] := ⟨⟩

theorem two_at2 (g : Nat) (bs : List UInt8) (l : List Int) (hbs : bs.length ≤ 1099511627776) (hl : l.length ≤ 1048576) (H : List Box) (x0 x1 : Box) :
    ASpec Try.prog 30 [.sl (H.length + 2) g 0 bs.length 1 false, vI l] (H ++ [x0, x1, ⟨bytesC bs, 0, g, true⟩]) (fun o H' => o = .ret (.sl (H.length + 2) (g + l.length) 0 (bs ++ twoB l).length 1 false) ∧ H' = H ++ [x0, x1, ⟨bytesC (bs ++ twoB l), 0, g + l.length, true⟩]) := by
  have h := two_spec (H.length + 2) g bs l hbs hl (H ++ [x0, x1, ⟨bytesC bs, 0, g, true⟩]) (by rw [List.getElem?_append_right (by omega)]; simp)
  have e : (H ++ [x0, x1, ⟨bytesC bs, 0, g, true⟩]).set (H.length + 2) ⟨bytesC (bs ++ twoB l), 0, g + l.length, true⟩ = H ++ [x0, x1, ⟨bytesC (bs ++ twoB l), 0, g + l.length, true⟩] := by
    rw [List.set_append_right _ _ (by omega)]
    simp
  rw [e] at h
  exact h

/-- Whether a record's name is the first question's. -/
def isQ (p : Pk) (r : Rr) : Bool := match p.q with
  | [] => false
  | q :: _ => sameN r.n q.n
/-- A record's name, as it is laid. -/
def nmB (p : Pk) (r : Rr) : List UInt8 := if isQ p r then [192, 12] else r.n
def rrN (r : Rr) : List Int := [r.t, r.c, r.l / 65536, r.l, r.d.length]
def rrB (p : Pk) (r : Rr) : List UInt8 := nmB p r ++ twoB (rrN r) ++ r.d

set_option maxHeartbeats 4000000 in
theorem lay_spec (b g : Nat) (bs : List UInt8) (p : Pk) (r : Rr) (hbs : bs.length ≤ 1073741824) (hn0 : 0 < r.n.length) (hn : r.n.length ≤ 1048576) (hd : r.d.length ≤ 1048576) (hq : ∀ q ∈ p.q, q.n.length ≤ 9223372036854775807)
    (H : List Box) {ro : Nat} {gr : Bool} (hb : H[b]? = some ⟨bytesC bs, ro, g, gr⟩) :
    ASpec Try.prog 32 [.sl b g 0 bs.length 1 true, .agg (pkC p), .agg (rrC r)] H (Owns (bs ++ rrB p r) H) := by
  have hbl : b < H.length := (List.getElem?_eq_some_iff.1 hb).1
  have hbN : ∀ N : List Box, (H ++ N)[b]? = some ⟨bytesC bs, ro, g, gr⟩ := fun N => by rw [List.getElem?_append_left hbl]; exact hb
  have htk : List.take bs.length (bytesC bs) = bytesC bs := List.take_of_length_le (by rw [bytesC_length]; exact Nat.le_refl _)
  obtain ⟨id, fl, q, a, u, m⟩ := p
  obtain ⟨n, t, c, tl, d⟩ := r
  dsimp only at hn0 hn hd hq
  generalize htwE : twoB [t, c, tl / 65536, tl, d.length] = tw
  have htwl : tw.length = 10 := by rw [← htwE, twoB_length]; rfl
  have htw : ∀ (x0 x1 : Box) (bs' : List UInt8), bs'.length ≤ 1099511627776 → ASpec Try.prog 30 [.sl (H.length + 2) 0 0 bs'.length 1 false, .lst 1 [[vi t], [vi c], [vi (tl / 65536)], [vi tl], [vi (d.length : Int)]]] (H ++ [x0, x1, ⟨bytesC bs', 0, 0, true⟩])
      (fun o H' => o = .ret (.sl (H.length + 2) 5 0 (bs' ++ tw).length 1 false) ∧ H' = H ++ [x0, x1, ⟨bytesC (bs' ++ tw), 0, 5, true⟩]) := fun x0 x1 bs' hbs' => by
    have h := two_at2 0 bs' [t, c, tl / 65536, tl, d.length] hbs' (by simp) H x0 x1
    rw [htwE] at h
    exact h
  have hfd : tl.fdiv 65536 = tl / 65536 := Int.fdiv_eq_ediv_of_nonneg _ (by decide)
  cases q with
  | nil =>
    have hr : rrB ⟨id, fl, [], a, u, m⟩ ⟨n, t, c, tl, d⟩ = n ++ tw ++ d := by rw [← htwE]; rfl
    rw [hr]
    have e1 : bytesC bs ++ bytesC n = bytesC (bs ++ n) := by simp [bytesC]
    have e2 : (bs ++ n).length = bs.length + n.length := List.length_append
    have hw := fun x0 x1 => htw x0 x1 (bs ++ n) (by omega)
    have e3 : (bs ++ n ++ tw).length = bs.length + n.length + 10 := by rw [List.length_append, e2, htwl]
    have e4 : bytesC (bs ++ n ++ tw) ++ bytesC d = bytesC (bs ++ (n ++ tw ++ d)) := by simp [bytesC]
    refine ASpec.enter Try.func32 rfl (fun a w => Try.call32 a w) Try.ntmps32 Try.results32 fun base w β hI => ?_
    refine wk (wA hbN (wA htk (wA hfd (wA e1 (wA (Eq.symm e2) (wA e4 wT)))))) (wA hw (wA holM_PktE_4 wT)) ?_
    have e5 : (bs ++ n ++ tw).length + d.length = (bs ++ (n ++ tw ++ d)).length := by simp only [List.length_append]; omega
    refine wkEnd wT ?_
    rw [e5]
    exact Fin.own (i := 2) rfl rfl (bytesC_lt _) ⟨rfl, rfl⟩
  | cons q0 q =>
    have hq0 := hq q0 (by simp)
    have hs := fun H => labSame_spec n q0.n (by omega) hq0 H
    obtain ⟨qn, qt, qc⟩ := q0
    dsimp only at hs
    have hr : rrB ⟨id, fl, ⟨qn, qt, qc⟩ :: q, a, u, m⟩ ⟨n, t, c, tl, d⟩ = (if sameN n qn then [192, 12] else n) ++ tw ++ d := by rw [← htwE]; rfl
    rw [hr]
    have hq0g : (qnG (⟨qn, qt, qc⟩ :: q))[0]? = some [vs qn, vi qt, vi qc] := rfl
    have hlen : (qnG (⟨qn, qt, qc⟩ :: q)).length = q.length + 1 := by simp [qnG]
    have hpos : (0 : Int) < ((q.length + 1 : Nat) : Int) := by omega
    cases hsm : sameN n qn with
    | true =>
      rw [hsm] at hs
      rw [if_pos rfl]
      have e1 : bytesC bs ++ [AV.v (.int .u8 192), AV.v (.int .u8 12)] = bytesC (bs ++ [192, 12]) := by simp [bytesC]
      have e2 : (bs ++ [192, 12]).length = bs.length + 2 := List.length_append
      have hw := fun x0 x1 => htw x0 x1 (bs ++ [192, 12]) (by omega)
      have e3 : (bs ++ [192, 12] ++ tw).length = bs.length + 2 + 10 := by rw [List.length_append, e2, htwl]
      have e4 : bytesC (bs ++ [192, 12] ++ tw) ++ bytesC d = bytesC (bs ++ ([192, 12] ++ tw ++ d)) := by simp [bytesC]
      refine ASpec.enter Try.func32 rfl (fun a w => Try.call32 a w) Try.ntmps32 Try.results32 fun base w β hI => ?_
      refine wk (wA hbN (wA htk (wA hfd (wA e1 (wA (Eq.symm e2) (wA e4 (wA hpos wT))))))) (wA hw (wA hs (wA holM_PktE_4 wT))) ?_
      have e5 : (bs ++ [192, 12] ++ tw).length + d.length = (bs ++ ([192, 12] ++ tw ++ d)).length := by simp only [List.length_append]; omega
      refine wkEnd wT ?_
      rw [e5]
      exact Fin.own (i := 2) rfl rfl (bytesC_lt _) ⟨rfl, rfl⟩
    | false =>
      rw [hsm] at hs
      rw [if_neg (by simp)]
      have e1 : bytesC bs ++ bytesC n = bytesC (bs ++ n) := by simp [bytesC]
      have e2 : (bs ++ n).length = bs.length + n.length := List.length_append
      have hw := fun x0 x1 => htw x0 x1 (bs ++ n) (by omega)
      have e3 : (bs ++ n ++ tw).length = bs.length + n.length + 10 := by rw [List.length_append, e2, htwl]
      have e4 : bytesC (bs ++ n ++ tw) ++ bytesC d = bytesC (bs ++ (n ++ tw ++ d)) := by simp [bytesC]
      refine ASpec.enter Try.func32 rfl (fun a w => Try.call32 a w) Try.ntmps32 Try.results32 fun base w β hI => ?_
      refine wk (wA hbN (wA htk (wA hfd (wA e1 (wA (Eq.symm e2) (wA e4 (wA hpos wT))))))) (wA hw (wA hs (wA holM_PktE_4 wT))) ?_
      have e5 : (bs ++ n ++ tw).length + d.length = (bs ++ (n ++ tw ++ d)).length := by simp only [List.length_append]; omega
      refine wkEnd wT ?_
      rw [e5]
      exact Fin.own (i := 2) rfl rfl (bytesC_lt _) ⟨rfl, rfl⟩

end Go.Proofs.Ytkkhbmpcpilmfaa.VL

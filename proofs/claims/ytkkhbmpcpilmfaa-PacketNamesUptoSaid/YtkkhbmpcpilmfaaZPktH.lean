/- Layer 17: records, as long as there is room, as the program lays them. -/
import Derived.Test.YtkkhbmpcpilmfaaZCd
import Derived.Test.YtkkhbmpcpilmfaaZPb
-- STEPWISE
-- WK
-- TAILN 18 4
set_option linter.unusedVariables false
set_option linter.unusedSimpArgs false
set_option maxRecDepth 10000
namespace Go.Proofs.Ytkkhbmpcpilmfaa.VL
open Go Go.RowKit Go.Lib

/-- Where a packet, what is laid, and the counts stand. -/
structure FS (H : List Box) (p : Pk) (Hx : List Box) (b g : Nat) (acc : List UInt8) (cs : List AV) : Prop where
  pre : ∃ N, Hx = H ++ N
  hp : Hx[H.length]? = some ⟨pkC p, 0, 0, false⟩
  hc : Hx[H.length + 2]? = some ⟨cs, 0, 0, false⟩
  hb : Hx[b]? = some ⟨bytesC acc, 0, g, true⟩
  hge : H.length < b
  hne : b ≠ H.length + 2
theorem FS.next {H : List Box} {p : Pk} {Hx : List Box} {b g : Nat} {acc acc' : List UInt8} {cs cs' : List AV} (h : FS H p Hx b g acc cs) (x : Box) :
    FS H p ((Hx ++ [x, ⟨bytesC acc', 0, 0, true⟩]).set (H.length + 2) ⟨cs', 0, 0, false⟩) (Hx.length + 1) 0 acc' cs' := by
  obtain ⟨N, rfl⟩ := h.pre
  have hl := (List.getElem?_eq_some_iff.1 h.hc).1
  have hp := h.hp
  rw [List.length_append] at hl
  refine ⟨⟨(N ++ [x, ⟨bytesC acc', 0, 0, true⟩]).set 2 ⟨cs', 0, 0, false⟩, ?_⟩, ?_, ?_, ?_, ?_, ?_⟩
  · rw [List.append_assoc, List.set_append_right _ _ (by omega)]
    congr 2
    omega
  · rw [List.getElem?_set_ne (by omega), List.getElem?_append_left (by rw [List.length_append]; omega)]
    exact hp
  · rw [List.getElem?_set_self (by rw [List.length_append, List.length_append]; omega)]
  · rw [List.getElem?_set_ne (by rw [List.length_append]; omega), List.getElem?_append_right (by omega)]
    simp
  · rw [List.length_append]; omega
  · rw [List.length_append]; omega
theorem FS.more {H : List Box} {p : Pk} {Hx : List Box} {b g : Nat} {acc : List UInt8} {cs : List AV} (h : FS H p Hx b g acc cs) (M : List Box) : FS H p (Hx ++ M) b g acc cs := by
  obtain ⟨N, rfl⟩ := h.pre
  have hl := (List.getElem?_eq_some_iff.1 h.hc).1
  have hb := (List.getElem?_eq_some_iff.1 h.hb).1
  exact ⟨⟨N ++ M, by rw [List.append_assoc]⟩, by rw [List.getElem?_append_left (by omega)]; exact h.hp, by rw [List.getElem?_append_left (by omega)]; exact h.hc, by rw [List.getElem?_append_left (by omega)]; exact h.hb, h.hge, h.hne⟩
abbrev FI (H : List Box) (p : Pk) (lim : Int) (acc0 : List UInt8) (L : List Rr) (cs0 : List AV) (i : Nat) := {s : Nat × List Box × Nat × Nat × List UInt8 // FS H p s.2.1 s.2.2.1 s.2.2.2.1 s.2.2.2.2 (cs0.set i (vi s.1)) ∧ s.1 ≤ L.length ∧ s.2.2.2.2.length ≤ acc0.length + 1265 * s.1 ∧
  fillR p lim acc0 L = ((fillR p lim s.2.2.2.2 (L.drop s.1)).1, s.1 + (fillR p lim s.2.2.2.2 (L.drop s.1)).2.1, (fillR p lim s.2.2.2.2 (L.drop s.1)).2.2)}

set_option maxHeartbeats 4000000 in
theorem fill_loop (p : Pk) (hq : ∀ q ∈ p.q, q.n.length ≤ 9223372036854775807) (L : List Rr) (hL : ∀ r ∈ L, ROk r) (hLl : L.length ≤ 100) (lim : Int) (i : Nat) (hi : i < 3) (cs0 : List AV) (hcs : cs0.length = 3) (h0 : cs0[i]? = some (vi 0))
    (acc0 : List UInt8) (hacc : acc0.length ≤ 600000) (fl : Int) (arr : AV) (Hx0 : List Box) (b0 g0 : Nat)
    (E : Ent) (hF : FS E.H p Hx0 b0 g0 acc0 cs0) (hE : E.n = 94) (Q : AExit → ASt → Prop) (body : Code) (hbody : ((Try.f10.body).bind lastLoop).bind firstLoop = some body)
    (hQ4 : ∀ k Hx b g, FS E.H p Hx b g (fillR p lim acc0 L).1 (cs0.set i (vi (fillR p lim acc0 L).2.1)) → (fillR p lim acc0 L).2.2 = false →
      Keeps k [(1, vi lim), (2, .ptr E.H.length 0 0), (6, .sl b g 0 (fillR p lim acc0 L).1.length 1 false), (9, vi fl), (10, .ptr (E.H.length + 2) 0 0), (45, arr), (46, vi i)] → Q (.exit 4) ⟨k, Hx⟩)
    (hQ2 : ∀ k Hx b g, FS E.H p Hx b g (fillR p lim acc0 L).1 (cs0.set i (vi (fillR p lim acc0 L).2.1)) → (fillR p lim acc0 L).2.2 = true →
      Keeps k [(1, vi lim), (2, .ptr E.H.length 0 0), (6, .sl b g 0 (fillR p lim acc0 L).1.length 1 false), (9, vi (ior .i64 fl 512)), (10, .ptr (E.H.length + 2) 0 0)] → Q (.exit 2) ⟨k, Hx⟩) :
    AWP Try.prog E (.loop body) Q ⟨[(1, vi lim), (2, .ptr E.H.length 0 0), (6, .sl b0 g0 0 acc0.length 1 false), (9, vi fl), (10, .ptr (E.H.length + 2) 0 0), (11, vi i), (45, arr), (46, vi i), (52, .lst 5 (rrG L)), (53, vi L.length), (54, vi 0)], Hx0⟩ := by
  have hrr : ∀ r ∈ L, (rrB p r).length ≤ 1265 := fun r hr => rrB_len p (hL r hr)
  have hlay := fun (b g : Nat) (bs : List UInt8) (r : Rr) hbs hn0 hn hd H hb => lay_spec b g bs p r hbs hn0 hn hd hq H (ro := 0) (gr := true) hb
  obtain ⟨base, n, w, H, β, hI⟩ := E
  dsimp only at *
  subst hE
  dsimp only [lastLoop, firstLoop, Option.bind, Try.f10] at hbody
  injection hbody with hbody
  subst hbody
  have hset0 : cs0.set i (vi 0) = cs0 := set_same' h0
  refine AWP.loop (ι := FI H p lim acc0 L cs0 i) (fun s => ⟨[(1, vi lim), (2, .ptr H.length 0 0), (6, .sl s.1.2.2.1 s.1.2.2.2.1 0 s.1.2.2.2.2.length 1 false), (9, vi fl), (10, .ptr (H.length + 2) 0 0), (11, vi i), (45, arr), (46, vi i), (52, .lst 5 (rrG L)), (53, vi L.length), (54, vi s.1.1)], s.1.2.1⟩) (fun s => L.length - s.1.1)
    ⟨(0, Hx0, b0, g0, acc0), by dsimp only; rw [show vi ((0 : Nat) : Int) = vi 0 from rfl, hset0]; exact hF, Nat.zero_le _, by simp, by simp⟩ ?_ ?_
  · dsimp only
    exact Coe.kp
  · rintro ⟨⟨j, Hx, b, g, acc⟩, hFS, hj, hal, hrel⟩
    dsimp only at hFS hj hal hrel ⊢
    by_cases hc : (j : Int) < (L.length : Int)
    · have hg : L[j]? = some L[j] := List.getElem?_eq_getElem (by omega)
      have hro := hL L[j] (List.getElem_mem _)
      have hrl := hrr L[j] (List.getElem_mem _)
      generalize L[j] = r at hg hro hrl
      rw [fillR_drop hg] at hrel
      have hn0 := hro.n0
      have hn1 := hro.n
      have hd1 := hro.d
      have hlt : H.length + 2 < Hx.length := (List.getElem?_eq_some_iff.1 hFS.hc).1
      have hblt : b < Hx.length := (List.getElem?_eq_some_iff.1 hFS.hb).1
      have hp' : ∀ N : List Box, (Hx ++ N)[H.length]? = some ⟨pkC p, 0, 0, false⟩ := fun N => by rw [List.getElem?_append_left (by omega)]; exact hFS.hp
      have hb' : ∀ N : List Box, (Hx ++ N)[b]? = some ⟨bytesC acc, 0, g, true⟩ := fun N => by rw [List.getElem?_append_left (by omega)]; exact hFS.hb
      have hc' : ∀ N : List Box, (Hx ++ N)[H.length + 2]? = some ⟨cs0.set i (vi j), 0, 0, false⟩ := fun N => by rw [List.getElem?_append_left (by omega)]; exact hFS.hc
      have hcl := fun (x : Box) => clip_spec b g acc.length (by omega) false (Hx ++ [x]) (hb' _) rfl
      have hly := fun (x : Box) => hlay b g acc r (by omega) hn0 (by omega) (by omega) (Hx ++ [x]) (hb' _)
      have hnx := fun (x : Box) => hFS.next (acc' := acc ++ rrB p r) (cs' := cs0.set i (vi ((j + 1 : Nat) : Int))) x
      have hlen2 : (acc ++ rrB p r).length = acc.length + (rrB p r).length := List.length_append
      generalize hac2 : acc ++ rrB p r = acc2 at *
      obtain ⟨rn, rt, rc, rl, rd⟩ := r
      by_cases hfit : lim < (acc2.length : Int)
      · rw [if_pos hfit] at hrel
        dsimp only at hrel
        refine wk (wA hc (wA hg (wA hp' (wA hb' (wA hc' (wA hfit wT)))))) (wA hcl (wA hly (wA ((TnM.mk (id := 18) (n := 4))) wT))) ?_
        refine hQ2 _ _ b g ?_ (by rw [hrel]) ?_
        · rw [hrel]; exact hFS.more _
        · rw [hrel]
          simp (disch := omega) only [Keeps, List.mem_cons, List.not_mem_nil, or_false, forall_eq_or_imp, forall_eq, go_sem, Nat.reduceBEq, Nat.reduceLT, Nat.reduceEqDiff, reduceIte, Nat.reduceAdd, Nat.reduceMul, Nat.reduceSub, Nat.reduceLeDiff, Int.reduceToNat, Int.reducePow, Int.reduceLT, Int.reduceEq, Int.reduceNeg, Nat.reducePow, List.reduceReplicate, Int.reduceLE]
      · rw [if_neg hfit] at hrel
        dsimp only at hrel
        have hil : i < (cs0.set i (vi j)).length := by rw [List.length_set]; omega
        have hgi : (cs0.set i (vi j))[i]? = some (vi j) := List.getElem?_set_self (by omega)
        refine wkL (wA hc (wA hg (wA hp' (wA hb' (wA hc' (wA hfit (wA hgi wT))))))) (wA hcl (wA hly (wA ((TnM.mk (id := 18) (n := 4))) wT))) ?_
        refine ⟨⟨(j + 1, (Hx ++ [(⟨[vs rn, vi rt, vi rc, vi rl, vs rd], 0, 0, false⟩ : Box), (⟨bytesC acc2, 0, 0, true⟩ : Box)]).set (H.length + 2) ⟨cs0.set i (vi ((j + 1 : Nat) : Int)), 0, 0, false⟩, Hx.length + 1, 0, acc2), hnx _, by dsimp only; omega, by dsimp only; omega, ?_⟩, ?_, by dsimp only; omega⟩
        · rw [hrel]
          dsimp only
          congr 2
          omega
        · dsimp only
          rw [show vi ((j + 1 : Nat) : Int) = AV.v (.int .i64 ((j : Int) + 1)) from rfl]
          exact Coe.kp
    · have : j = L.length := by omega
      subst this
      rw [List.drop_length, fillR] at hrel
      refine wk (wA hc wT) (wA ((TnM.mk (id := 18) (n := 4))) wT) ?_
      refine hQ4 _ Hx b g ?_ (by rw [hrel]) ?_
      · rw [hrel]; exact hFS
      · rw [hrel]
        simp (disch := omega) only [Keeps, List.mem_cons, List.not_mem_nil, or_false, forall_eq_or_imp, forall_eq, go_sem, Nat.reduceBEq, Nat.reduceLT, Nat.reduceEqDiff, reduceIte, Nat.reduceAdd, Nat.reduceMul, Nat.reduceSub, Nat.reduceLeDiff, Int.reduceToNat, Int.reducePow, Int.reduceLT, Int.reduceEq, Int.reduceNeg, Nat.reducePow, List.reduceReplicate, Int.reduceLE]

end Go.Proofs.Ytkkhbmpcpilmfaa.VL

/- Layer 17: a reader of bytes, as the program has it. -/
import Derived.Test.YtkkhbmpcpilmfaaZCd
import Derived.Test.YtkkhbmpcpilmfaaZPb
import Derived.Test.YtkkhbmpcpilmfaaZPktN
-- STEPWISE
-- WK
-- TAIL
set_option linter.unusedVariables false
set_option linter.unusedSimpArgs false
set_option maxRecDepth 10000
namespace Go.Proofs.Ytkkhbmpcpilmfaa.VL
open Go Go.RowKit Go.Lib

/-- The cells of boxes lie below. -/
def LtH (n : Nat) (H : List Box) : Prop := ∀ (i : Nat) (bx : Box), H[i]? = some bx → ∀ (j : Nat) (c : AV), bx.cells[j]? = some c → Lt n c
theorem Ent.ltH (E : Ent) : LtH E.H.length E.H := fun i bx hi j c hj => E.inv.ltCells hi hj
theorem LtH.set {n : Nat} {H : List Box} {k : Nat} {x : Box} (h : LtH n H) (hx : ∀ (j : Nat) (c : AV), x.cells[j]? = some c → Lt n c) : LtH n (H.set k x) := fun i bx hi j c hj => by
  rw [List.getElem?_set] at hi
  split at hi
  · split at hi
    · injection hi with hi; subst hi; exact hx j c hj
    · cases hi
  · exact h i bx hi j c hj
/-- New boxes are forgotten; the caller's may have changed. -/
theorem Fin.cutG {E : Ent} {r : AV} {H' N : List Box} {K : AV → List Box → Prop} (hl : H'.length = E.H.length) (hc : LtH E.H.length H') (hr : Lt E.H.length r) (h : K r H') : Fin E r (H' ++ N) K :=
  ⟨r, H', fun w β v hI hs hr' => by
    obtain ⟨h1, h2, h3⟩ := cut_inv hI hs (by rw [hl]; exact hc) (by omega)
    exact ⟨β, h1, h2, h3 r v (by rw [hl]; exact hr) hr'⟩, h⟩
/-- The same, and a new slice is only read from now on. -/
theorem Fin.frozH {E : Ent} {H' N : List Box} {r r' : AV} {b g n sz : Nat} {full : Bool} {bx : Box} {G : List (List AV)} {K : AV → List Box → Prop} (hl : H'.length = E.H.length) (hlc : LtH E.H.length H') (hb : (H' ++ N)[b]? = some bx) (hge : H'.length ≤ b) (hg : bx.gen = g) (hfit : n * sz ≤ bx.cells.length) (hG : chunk sz n bx.cells = G)
    (hsw : ∀ (w : World) (H : List Box) (β : Pl) (v : Value), (∀ x, Rep w H β (.sl b g 0 n sz full) x → Rep w H β (.lst sz G) x) → Rep w H β r v → Rep w H β r' v) (hlt : Lt 0 r') (h : K r' H') : Fin E r (H' ++ N) K :=
  ⟨r', H', fun w β v hI hs hr => by
    obtain ⟨h1, h2⟩ := freeze_inv hI hb (show 0 + n * sz ≤ bx.cells.length by omega)
    have hbl : b < (H' ++ N).length := (List.getElem?_eq_some_iff.1 hb).1
    have hr' := hsw w _ β v (fun x hx => by
      have hv : Rep w _ β (.lst sz (chunk sz n (bx.cells.drop 0))) x := rep_view (bx := { bx with ro := max bx.ro (0 + n * sz) }) h1 (List.getElem?_set_self hbl) hg (Nat.le_max_right _ _) hx
      rwa [List.drop_zero, hG] at hv) (hr.stp h2)
    have hs' := hs.trans h2
    rw [List.set_append_right _ _ hge] at h1 hs' hr'
    obtain ⟨g1, g2, g3⟩ := cut_inv h1 hs' (by rw [hl]; exact hlc) (by omega)
    exact ⟨β, g1, g2, g3 _ _ (hlt.mono (Nat.zero_le _)) hr'⟩, h⟩

theorem fin_frozB {E : Ent} {H' : List Box} {bs : List UInt8} {n g : Nat} {full gr : Bool} {K : AV → List Box → Prop} (hl : H'.length = E.H.length) (hlc : LtH E.H.length H') (hn : n = bs.length) (h : K (vB bs) H') : Fin E (.sl E.H.length g 0 n 1 full) (H' ++ [⟨bytesC bs, 0, g, gr⟩]) K :=
  Fin.frozH (bx := ⟨bytesC bs, 0, g, gr⟩) (b := E.H.length) hl hlc (by rw [List.getElem?_append_right (by omega), hl]; simp) (by omega) rfl (by rw [bytesC_length]; omega) (chunk_bytesC bs n hn) (fun w H β v hsw hr => hsw v hr) (lt_bytes bs) h

/-- A reader: its bytes, its place, what is wrong. -/
abbrev rdX (b : List UInt8) (s : Nat × Int) : Box := ⟨[vB b, vi s.1, vi s.2], 0, 0, false⟩
theorem lt_rdX {n : Nat} (b : List UInt8) (s : Nat × Int) : ∀ (j : Nat) (c : AV), (rdX b s).cells[j]? = some c → Lt n c := fun j c hj => by
  rcases j with _ | _ | _ | j <;> simp at hj <;> subst hj
  · exact lt_bytes _
  · exact .v _
  · exact .v _
/-- So many bytes. -/
def rdT (b : List UInt8) (s : Nat × Int) (n : Nat) : List UInt8 × Nat × Int :=
  if s.2 ≠ 0 then (zerosB n, s.1, s.2) else if (b.length : Int) - s.1 < n then (zerosB n, s.1, 2) else ((b.take (s.1 + n)).drop s.1, s.1 + n, 0)

set_option maxHeartbeats 4000000 in
theorem rdTake_spec (b : List UInt8) (hbl : b.length ≤ 1048576) (s : Nat × Int) (n : Nat) (hn : n ≤ 65535) (hs : s.1 ≤ b.length) (k : Nat) (H : List Box) (hk : H[k]? = some (rdX b s)) :
    ASpec Try.prog 38 [.ptr k 0 0, vi n] H (Gives (vB (rdT b s n).1) (H.set k (rdX b (rdT b s n).2))) := by
  have hkl : k < H.length := (List.getElem?_eq_some_iff.1 hk).1
  have hss : ∀ x : Box, (H.set k x)[k]? = some x := fun x => List.getElem?_set_self hkl
  have hself : H.set k (rdX b s) = H := set_same' hk
  obtain ⟨a, e⟩ := s
  dsimp only at hs
  unfold rdT
  dsimp only
  by_cases he : e = 0
  · subst he
    rw [if_neg (by simp)]
    by_cases hsh : (b.length : Int) - (a : Int) < (n : Int)
    · rw [if_pos hsh]
      refine ASpec.enter Try.func38 rfl (fun a w => Try.call38 a w) Try.ntmps38 Try.results38 fun base w β hI => ?_
      refine wkL (wA hk (wA hss (wA hsh wT))) (wA TlM.mk wT) ?_
      refine wkEnd wT ?_
      rw [List.length_set]
      exact fin_frozB (E := ⟨base, 57, w, H, β, hI⟩) (by rw [List.length_set]) ((Ent.ltH ⟨base, 57, w, H, β, hI⟩).set (lt_rdX b (a, 2))) (by simp [zerosB]) ⟨rfl, rfl⟩
    · rw [if_neg hsh]
      have hi1 : ((a : Int) + (n : Int)).toNat = a + n := by omega
      have hi2 : (a : Int) + (n : Int) - (n : Int) = a := by omega
      refine ASpec.enter Try.func38 rfl (fun a w => Try.call38 a w) Try.ntmps38 Try.results38 fun base w β hI => ?_
      refine wkL (wA hk (wA hss (wA hsh (wA hi1 (wA hi2 wT))))) (wA TlM.mk wT) ?_
      refine wkEnd wT ?_
      exact ⟨_, _, Shed.refl _ _ _, rfl, rfl⟩
  · rw [if_pos he, hself]
    refine ASpec.enter Try.func38 rfl (fun a w => Try.call38 a w) Try.ntmps38 Try.results38 fun base w β hI => ?_
    refine wk (wA hk (wA he wT)) (wA TlM.mk wT) ?_
    refine wkEnd wT ?_
    exact fin_frozB (E := ⟨base, 57, w, H, β, hI⟩) rfl (Ent.ltH ⟨base, 57, w, H, β, hI⟩) (by simp [zerosB]) ⟨rfl, rfl⟩

/-- Bytes' number. -/
def numV (l : List UInt8) : Nat := l.foldl (fun a c => a * 256 + c.toNat) 0
theorem numV_snoc (l : List UInt8) (c : UInt8) : numV (l ++ [c]) = numV l * 256 + c.toNat := by simp [numV]
theorem numV_lt : ∀ (n : Nat) (l : List UInt8), l.length = n → numV l < 256 ^ n
  | 0, l, h => by rw [List.eq_nil_of_length_eq_zero h]; simp [numV]
  | n + 1, l, h => by
    obtain ⟨c, l', rfl⟩ : ∃ c l', l = l' ++ [c] := ⟨l.getLast (by intro h'; rw [h'] at h; simp at h), l.dropLast, (List.dropLast_concat_getLast _).symm⟩
    rw [List.length_append, List.length_singleton] at h
    have ih := numV_lt n l' (by omega)
    have := c.toNat_lt
    rw [numV_snoc, Nat.pow_succ]
    omega
theorem or_256' {x y : Nat} (hx : x ≤ 16777215) (hy : y < 256) : ior .i64 ((x : Int) * 256) (y : Int) = ((x * 256 + y : Nat) : Int) := by
  rw [ior_i64 (by omega) (by omega) (by omega) (by omega)]
  have e1 : ((x : Int) * 256).toNat = 2 ^ 8 * x := by omega
  rw [e1, Int.toNat_natCast, ← Nat.two_pow_add_eq_or_of_lt (by omega)]
  congr 1
  omega
theorem rdT_length (b : List UInt8) (s : Nat × Int) (n : Nat) : (rdT b s n).1.length = n := by
  unfold rdT
  split
  · simp [zerosB]
  · split
    · simp [zerosB]
    · simp only [List.length_drop, List.length_take]; omega
def rdN (b : List UInt8) (s : Nat × Int) (n : Nat) : Nat := numV (rdT b s n).1

set_option maxHeartbeats 4000000 in
theorem rdNum_spec (b : List UInt8) (hbl : b.length ≤ 1048576) (s : Nat × Int) (n : Nat) (hn : n ≤ 4) (hs : s.1 ≤ b.length) (k : Nat) (H : List Box) (hk : H[k]? = some (rdX b s)) :
    ASpec Try.prog 36 [.ptr k 0 0, vi n] H (Gives (vi (rdN b s n)) (H.set k (rdX b (rdT b s n).2))) := by
  have ht := rdTake_spec b hbl s n (by omega) hs k H hk
  have hl := rdT_length b s n
  unfold rdN
  generalize rdT b s n = x at *
  obtain ⟨bs, s'⟩ := x
  dsimp only at ht hl ⊢
  generalize rdX b s' = X at *
  refine ASpec.enter Try.func36 rfl (fun a w => Try.call36 a w) Try.ntmps36 Try.results36 fun base w β hI => ?_
  refine wk wT (wA ht (wA TlM.mk wT)) ?_
  refine AWP.loop (ι := {i : Nat // i ≤ bs.length}) (fun p => ⟨[(4, vi (numV (bs.take p.1))), (9, vB bs), (10, vi bs.length), (11, vi p.1)], H.set k X⟩) (fun p => bs.length - p.1) ⟨0, Nat.zero_le _⟩ ?_ ?_
  · dsimp only [List.take_zero, numV, List.foldl_nil]
    exact Coe.kp
  · rintro ⟨i, hi⟩
    dsimp only
    by_cases hc : (i : Int) < (bs.length : Int)
    · have hg : bs[i]? = some bs[i] := List.getElem?_eq_getElem (by omega)
      generalize bs[i] = c at hg
      have hsn := numV_snoc (bs.take i) c
      rw [← take_snoc hg] at hsn
      have hlt := numV_lt i (bs.take i) (by rw [List.length_take]; omega)
      have hp : 256 ^ i ≤ 256 ^ 3 := Nat.pow_le_pow_right (by omega) (by omega)
      have hc256 := c.toNat_lt
      generalize hv : numV (bs.take i) = v at *
      have hv3 : v ≤ 16777215 := by omega
      have hor := or_256' hv3 hc256
      refine wk (wA hc (wA hg (wA hor wT))) (wA TlM.mk wT) ?_
      refine ⟨⟨i + 1, by omega⟩, ?_, by dsimp only; omega⟩
      dsimp only
      rw [hsn]
      exact Coe.kp
    · have : i = bs.length := by omega
      subst this
      rw [List.take_length]
      refine wk (wA hc wT) (wA TlM.mk wT) ?_
      refine wkEnd wT ?_
      exact ⟨_, _, Shed.refl _ _ _, rfl, rfl⟩

end Go.Proofs.Ytkkhbmpcpilmfaa.VL

/- Layer 17: a reader's name, as the program has it. -/
-- STEPWISE
-- WK
-- HWR
-- HOLE 2 0 [(.same, []), (.same, [0]), (.same, []), (.same, []), (.same, []), (.same, []), (.same, []), (.same, []), (.same, []), (.same, []), (.same, []), (.same, []), (.same, []), (.same, []), (.same, [0]), (.same, []), (.same, []), (.same, []), (.wr 0, []), (.same, []), (.same, []), (.wr 0, [])]
set_option linter.unusedVariables false
set_option linter.unusedSimpArgs false
set_option maxRecDepth 10000
namespace Go.Proofs.Ytkkhbmpcpilmfaa.VL
open Go Go.RowKit Go.Lib

theorem holM_PktL_2 : HolM 2 0 [(.same, []), (.same, [0]), (.same, []), (.same, []), (.same, []), (.same, []), (.same, []), (.same, []), (.same, []), (.same, []), (.same, []), (.same, []), (.same, []), (.same, []), (.same, [0]), (.same, []), (.same, []), (.same, []), (.wr 0, []), (.same, []), (.same, []), (.wr 0, [])] := ⟨⟩

theorem nmF_next (b : List UInt8) : ∀ (k st j a nx : Nat) (acc : List UInt8), nx ≤ b.length → ∃ n : Nat, (nmF b k st j a nx acc).2.1 = n ∧ n ≤ b.length
  | 0, _, _, _, _, _, _ => ⟨0, rfl, Nat.zero_le _⟩
  | k + 1, st, j, a, nx, acc, h => by
    rw [nmF]
    cases hg : b[a]? with
    | none => exact ⟨0, rfl, Nat.zero_le _⟩
    | some c =>
      dsimp only
      by_cases hA : 63 < c.toNat ∧ c.toNat < 192
      · rw [if_pos hA]; exact ⟨0, rfl, Nat.zero_le _⟩
      rw [if_neg hA]
      by_cases hB : c.toNat < 192
      · rw [if_neg (show ¬ 192 ≤ c.toNat by omega), if_pos hB]
        by_cases hC : b.length < a + (1 + c.toNat)
        · rw [if_pos hC]; exact ⟨0, rfl, Nat.zero_le _⟩
        rw [if_neg hC]
        by_cases hD : c.toNat = 0
        · rw [if_pos hD]
          by_cases hj : j = 0
          · exact ⟨a + 1, by simp [hj], by omega⟩
          · exact ⟨nx, by simp [hj], h⟩
        rw [if_neg hD]
        by_cases hF : 255 ≤ acc.length + (1 + c.toNat)
        · rw [if_pos hF]; exact ⟨0, rfl, Nat.zero_le _⟩
        rw [if_neg hF]
        refine nmF_next b k _ _ _ _ _ ?_
        split <;> omega
      · rw [if_pos (show 192 ≤ c.toNat by omega), if_neg hB]
        by_cases hC : b.length < a + 2
        · rw [if_pos hC]; exact ⟨0, rfl, Nat.zero_le _⟩
        rw [if_neg hC]
        by_cases hD : st ≤ (c.toNat - 192) * 256 + (b[a + 1]?.getD 0).toNat ∨ 16 < j + 1
        · rw [if_pos hD]; exact ⟨0, rfl, Nat.zero_le _⟩
        rw [if_neg hD]
        refine nmF_next b k _ _ _ _ _ ?_
        split <;> omega
theorem nmP_next (b : List UInt8) (x : Int) : ∃ n : Nat, (nmP b x).2.1 = n ∧ n ≤ b.length := by
  unfold nmP
  split
  · exact ⟨0, rfl, Nat.zero_le _⟩
  · exact nmF_next b _ _ _ _ _ _ (by omega)

def rdM (b : List UInt8) (s : Nat × Int) : List UInt8 × Nat × Int := if s.2 ≠ 0 then ([], s) else ((nmP b s.1).1, (nmP b s.1).2.1.toNat, (nmP b s.1).2.2)
theorem rdM_le (b : List UInt8) (s : Nat × Int) (hs : s.1 ≤ b.length) : (rdM b s).2.1 ≤ b.length := by
  obtain ⟨n, h1, h2⟩ := nmP_next b s.1
  unfold rdM
  split
  · exact hs
  · dsimp only; omega
theorem rdT_le (b : List UInt8) (s : Nat × Int) (n : Nat) (hs : s.1 ≤ b.length) : (rdT b s n).2.1 ≤ b.length := by
  unfold rdT
  split
  · exact hs
  · split
    · exact hs
    · dsimp only; omega

set_option maxHeartbeats 4000000 in
theorem rdName_spec (b : List UInt8) (hbl : b.length ≤ 1048576) (s : Nat × Int) (H0 N2 : List Box) :
    ASpec Try.prog 37 [.ptr H0.length 0 0] (H0 ++ (rdX b s :: N2)) (Gives (vs (rdM b s).1) (H0 ++ (rdX b (rdM b s).2 :: N2))) := by
  have hk : (H0 ++ (rdX b s :: N2))[H0.length]? = some (rdX b s) := by rw [List.getElem?_append_right (Nat.le_refl _)]; simp
  have hnm := fun H => pktName_spec b hbl s.1 H
  obtain ⟨n, h1, h2⟩ := nmP_next b s.1
  unfold rdM
  rw [h1, Int.toNat_natCast]
  obtain ⟨a, e⟩ := s
  dsimp only at hnm h1 ⊢
  generalize nmP b a = R at *
  obtain ⟨r1, r2, r3⟩ := R
  dsimp only at h1
  subst h1
  by_cases he : e = 0
  · subst he
    rw [if_neg (by simp)]
    refine ASpec.enter Try.func37 rfl (fun a w => Try.call37 a w) Try.ntmps37 Try.results37 fun base w β hI => ?_
    refine wk (wA hk wT) (wA hnm (wA holM_PktL_2 wT)) ?_
    refine wkEnd wT ?_
    exact ⟨_, _, Shed.refl _ _ _, rfl, rfl⟩
  · rw [if_pos he]
    refine ASpec.enter Try.func37 rfl (fun a w => Try.call37 a w) Try.ntmps37 Try.results37 fun base w β hI => ?_
    refine wk (wA hk (wA he wT)) (wA holM_PktL_2 wT) ?_
    refine wkEnd wT ?_
    exact Fin.same ⟨rfl, rfl⟩

end Go.Proofs.Ytkkhbmpcpilmfaa.VL

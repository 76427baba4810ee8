/- Layer 17: what is built within a greater limit, plain. -/
import Derived.Test.YtkkhbmpcpilmfaaZPktJ
import Derived.Test.YtkkhbmpcpilmfaaZPktN
import Derived.Test.YtkkhbmpcpilmfaaZSb
import Derived.Test.YtkkhbmpcpilmfaaZPe
set_option linter.unusedVariables false
set_option linter.unusedSimpArgs false
namespace Go.Proofs.Ytkkhbmpcpilmfaa.VL
open Go Go.RowKit Go.Lib

def rsB (p : Pk) (l : List Rr) : List UInt8 := l.flatMap (rrB p)
theorem rsB_cons (p : Pk) (r : Rr) (l : List Rr) : rsB p (r :: l) = rrB p r ++ rsB p l := by simp [rsB]
theorem rsB_len (p : Pk) : ∀ (l : List Rr), (∀ r ∈ l, ROk r) → (rsB p l).length ≤ 1265 * l.length
  | [], _ => by simp [rsB]
  | r :: l, h => by
    have h1 := rrB_len p (h r (by simp))
    have h2 := rsB_len p l fun x hx => h x (by simp [hx])
    rw [rsB_cons, List.length_append, List.length_cons]
    omega
theorem rsB_app (p : Pk) (l m : List Rr) : rsB p (l ++ m) = rsB p l ++ rsB p m := by simp [rsB]
/-- Records behind bytes: the first ones, all if nothing is cut. -/
theorem fillR_take (p : Pk) (lim : Int) : ∀ (l : List Rr) (acc : List UInt8), (fillR p lim acc l).1 = acc ++ rsB p (l.take (fillR p lim acc l).2.1) ∧ (fillR p lim acc l).2.1 ≤ l.length ∧ ((fillR p lim acc l).2.2 = false → (fillR p lim acc l).2.1 = l.length)
  | [], acc => by simp [fillR, rsB]
  | r :: l, acc => by
    rw [fillR]
    split
    · simp [rsB]
    · obtain ⟨h1, h2, h3⟩ := fillR_take p lim l (acc ++ rrB p r)
      refine ⟨?_, ?_, ?_⟩
      · dsimp only
        rw [h1, List.take_succ_cons, rsB_cons, List.append_assoc]
      · dsimp only
        rw [List.length_cons]; omega
      · dsimp only
        intro h
        rw [h3 h, List.length_cons]
theorem fillR_le (p : Pk) (lim : Int) : ∀ (l : List Rr) (acc : List UInt8), (acc.length : Int) ≤ lim → ((fillR p lim acc l).1.length : Int) ≤ lim
  | [], acc, h => by simpa [fillR] using h
  | r :: l, acc, h => by
    rw [fillR]
    split
    · exact h
    · exact fillR_le p lim l _ (by omega)
theorem fillR_pre (p : Pk) (lim : Int) (l : List Rr) (acc : List UInt8) : acc <+: (fillR p lim acc l).1 := by
  rw [(fillR_take p lim l acc).1]; exact List.prefix_append _ _
theorem fillR_mono (p : Pk) {a b : Int} (hab : a ≤ b) : ∀ (l : List Rr) (acc : List UInt8), (fillR p a acc l).1 <+: (fillR p b acc l).1 ∧ ((fillR p a acc l).2.2 = false → fillR p b acc l = fillR p a acc l)
  | [], acc => by simp [fillR]
  | r :: l, acc => by
    by_cases h : a < ((acc ++ rrB p r).length : Int)
    · refine ⟨?_, ?_⟩
      · rw [show fillR p a acc (r :: l) = (acc, 0, true) by rw [fillR, if_pos h]]
        exact fillR_pre p b (r :: l) acc
      · rw [show fillR p a acc (r :: l) = (acc, 0, true) by rw [fillR, if_pos h]]
        simp
    · obtain ⟨h1, h2⟩ := fillR_mono p hab l (acc ++ rrB p r)
      rw [fillR, fillR, if_neg h, if_neg (by omega)]
      refine ⟨h1, ?_⟩
      dsimp only
      intro hc
      rw [h2 hc]
/-- Where all are there, and a limit is as great, nothing is cut. -/
theorem fillR_all (p : Pk) (lim : Int) : ∀ (l : List Rr) (acc : List UInt8), ((acc ++ rsB p l).length : Int) ≤ lim → fillR p lim acc l = (acc ++ rsB p l, l.length, false)
  | [], acc, _ => by simp [fillR, rsB]
  | r :: l, acc, h => by
    rw [rsB_cons, ← List.append_assoc] at h
    have h1 : ¬ lim < ((acc ++ rrB p r).length : Int) := by rw [List.length_append] at h; omega
    rw [fillR, if_neg h1, fillR_all p lim l (acc ++ rrB p r) h, rsB_cons, List.append_assoc]
    rfl

/-- The bytes ahead of the records, with a head of zeros. -/
def bd0 (p : Pk) : List UInt8 := zerosB 12 ++ qsB p.q
def wholeB (p : Pk) : List UInt8 := bd0 p ++ rsB p p.a ++ rsB p p.u ++ rsB p p.m
theorem fill_all (p : Pk) (lim : Int) (h : ((wholeB p).length : Int) ≤ lim) : fill1 p lim = (bd0 p ++ rsB p p.a, p.a.length, false) ∧ fill2 p lim = (bd0 p ++ rsB p p.a ++ rsB p p.u, p.u.length, false) ∧ fill3 p lim = (wholeB p, p.m.length, false) := by
  have hw : (wholeB p).length = (bd0 p ++ rsB p p.a).length + (rsB p p.u).length + (rsB p p.m).length := by simp [wholeB]; omega
  have e1 : fill1 p lim = (bd0 p ++ rsB p p.a, p.a.length, false) := fillR_all p lim p.a (bd0 p) (by omega)
  have e2 : fill2 p lim = (bd0 p ++ rsB p p.a ++ rsB p p.u, p.u.length, false) := by
    rw [fill2, e1, if_neg (by simp)]
    exact fillR_all p lim p.u (bd0 p ++ rsB p p.a) (by rw [List.length_append]; omega)
  refine ⟨e1, e2, ?_⟩
  rw [fill3, e2, if_neg (by simp)]
  exact fillR_all p lim p.m (bd0 p ++ rsB p p.a ++ rsB p p.u) (by rw [List.length_append, List.length_append]; omega)
theorem fill3_mono (p : Pk) {a b : Int} (hab : a ≤ b) : (fill3 p a).1 <+: (fill3 p b).1 := by
  obtain ⟨m1, n1⟩ := fillR_mono p hab p.a (bd0 p)
  change (fill1 p a).1 <+: (fill1 p b).1 at m1
  change (fill1 p a).2.2 = false → fill1 p b = fill1 p a at n1
  have p2 : (fill1 p b).1 <+: (fill2 p b).1 := by
    unfold fill2; split
    · exact List.prefix_refl _
    · exact fillR_pre _ _ _ _
  have p3 : (fill2 p b).1 <+: (fill3 p b).1 := by
    unfold fill3; split
    · exact List.prefix_refl _
    · exact fillR_pre _ _ _ _
  cases hc : (fill1 p a).2.2 with
  | true =>
    have e2 : fill2 p a = ((fill1 p a).1, 0, true) := by rw [fill2, hc, if_pos rfl]
    have e3 : fill3 p a = ((fill1 p a).1, 0, true) := by rw [fill3, e2, if_pos rfl]
    rw [e3]
    exact m1.trans (p2.trans p3)
  | false =>
    have e1 := n1 hc
    have e2a : fill2 p a = fillR p a (fill1 p a).1 p.u := by rw [fill2, hc, if_neg (by simp)]
    have e2b : fill2 p b = fillR p b (fill1 p a).1 p.u := by rw [fill2, e1, hc, if_neg (by simp)]
    obtain ⟨m2, n2⟩ := fillR_mono p hab p.u (fill1 p a).1
    rw [← e2a, ← e2b] at m2 n2
    cases hc2 : (fill2 p a).2.2 with
    | true =>
      have e3 : fill3 p a = ((fill2 p a).1, 0, true) := by rw [fill3, hc2, if_pos rfl]
      rw [e3]
      exact m2.trans p3
    | false =>
      have e2 := n2 hc2
      have e3a : fill3 p a = fillR p a (fill2 p a).1 p.m := by rw [fill3, hc2, if_neg (by simp)]
      have e3b : fill3 p b = fillR p b (fill2 p a).1 p.m := by rw [fill3, e2, hc2, if_neg (by simp)]
      rw [e3a, e3b]
      exact (fillR_mono p hab p.m (fill2 p a).1).1
theorem fill3_le (p : Pk) {lim : Int} (h : ((bd0 p).length : Int) ≤ lim) : ((fill3 p lim).1.length : Int) ≤ lim := by
  have h1 : ((fill1 p lim).1.length : Int) ≤ lim := fillR_le p lim p.a _ h
  have h2 : ((fill2 p lim).1.length : Int) ≤ lim := by
    unfold fill2; split
    · exact h1
    · exact fillR_le p lim p.u _ h1
  unfold fill3; split
  · exact h2
  · exact fillR_le p lim p.m _ h2
theorem wholeB_len {p : Pk} (hp : POk p) : (wholeB p).length ≤ 405412 := by
  have h0 := b0_len hp
  have h1 := rsB_len p p.a hp.a
  have h2 := rsB_len p p.u hp.u
  have h3 := rsB_len p p.m hp.m
  have := hp.la
  have := hp.lu
  have := hp.lm
  have hw : (wholeB p).length = (zerosB 12 ++ qsB p.q).length + (rsB p p.a).length + (rsB p p.u).length + (rsB p p.m).length := by simp [wholeB, bd0]; omega
  omega
theorem hd_len (p : Pk) (lim : Int) : (twoB (hdN p lim)).length = 12 := by rw [twoB_length]; rfl

/-- The law on limits. -/
structure LimLaw (p : Pk) (lo hi : Int) : Prop where
  g : (bldP p 1048576).2 = 0
  ef : (bldP p lo).2 = 0 → (bldP p hi).2 = 0
  f : (bldP p hi).2 ≠ 0 → (bldP p hi).2 = 4
  e : (bldP p lo).2 ≠ 0 → (bldP p lo).2 = 4
  all : (bldP p lo).2 = 0 → ((bldP p 1048576).1.length : Int) ≤ hi → (bldP p hi).1 = (bldP p 1048576).1
  bh : (bldP p lo).2 = 0 → ((bldP p hi).1.length : Int) ≤ hi
  ab : (bldP p lo).2 = 0 → (bldP p lo).1.length ≤ (bldP p hi).1.length
  a12 : (bldP p lo).2 = 0 → 12 ≤ (bldP p lo).1.length
  bc : (bldP p lo).2 = 0 → (bldP p hi).1.length ≤ (bldP p 1048576).1.length
  pre1 : (bldP p lo).2 = 0 → (bldP p lo).1.drop 12 = ((bldP p hi).1.take (bldP p lo).1.length).drop 12
  pre2 : (bldP p lo).2 = 0 → (bldP p hi).1.drop 12 = ((bldP p 1048576).1.take (bldP p hi).1.length).drop 12
  ltc : (bldP p 1048576).1.length ≤ 1048576
theorem bldP_eq {p : Pk} (hok : pOk p = true) (lim : Int) : bldP p lim = if lim < ((bd0 p).length : Int) then ([], 4) else (twoB (hdN p lim) ++ (fill3 p lim).1.drop 12, 0) := by
  unfold bldP
  rw [if_neg (by rw [hok]; simp)]
  rfl
theorem bldP_pre {x y : List UInt8} {h k : List UInt8} (hh : h.length = 12) (hk : k.length = 12) (hxy : x <+: y) (hx : 12 ≤ x.length) :
    (h ++ x.drop 12).drop 12 = ((k ++ y.drop 12).take (h ++ x.drop 12).length).drop 12 ∧ (h ++ x.drop 12).length ≤ (k ++ y.drop 12).length := by
  obtain ⟨t, rfl⟩ := hxy
  have hl : (h ++ x.drop 12).length = x.length := by rw [List.length_append, List.length_drop, hh]; omega
  have e : (x ++ t).drop 12 = x.drop 12 ++ t := by rw [List.drop_append_of_le_length hx]
  refine ⟨?_, ?_⟩
  · rw [hl, List.drop_left' hh, e, ← List.append_assoc, List.take_append_of_le_length (by simp; omega), List.take_of_length_le (by simp; omega), List.drop_left' hk]
  · rw [hl]; simp; omega
theorem lim_law {p : Pk} (hok : pOk p = true) {lo hi : Int} (h : lo ≤ hi) (hhi : hi ≤ 65535) : LimLaw p lo hi := by
  have hpo := pOk_len hok
  have hw := wholeB_len hpo
  have h0 : (bd0 p).length ≤ 25912 := b0_len hpo
  obtain ⟨c1, c2, c3⟩ := fill_all p 1048576 (by omega)
  have eC := bldP_eq hok 1048576
  rw [if_neg (by omega)] at eC
  have eH := bldP_eq hok hi
  have eL := bldP_eq hok lo
  have g12 := fill3_ge hpo
  by_cases hh : hi < ((bd0 p).length : Int)
  · rw [if_pos hh] at eH
    rw [if_pos (by omega)] at eL
    have hCl := wholeB_len hpo
    have hl4 : (bldP p lo).2 = 0 → False := fun hx => by rw [eL] at hx; simp at hx
    refine ⟨by rw [eC], fun hx => (hl4 hx).elim, fun _ => by rw [eH], fun _ => by rw [eL], fun hx => (hl4 hx).elim, fun hx => (hl4 hx).elim, fun hx => (hl4 hx).elim, fun hx => (hl4 hx).elim, fun hx => (hl4 hx).elim, fun hx => (hl4 hx).elim, fun hx => (hl4 hx).elim, ?_⟩
    rw [eC]
    dsimp only
    rw [c3, List.length_append, hd_len, List.length_drop]
    dsimp only
    omega
  · rw [if_neg hh] at eH
    have hle := fill3_le p (lim := hi) (by omega)
    have hp2 := fill3_mono p (a := hi) (b := 1048576) (by omega)
    have g1 := g12 hi
    obtain ⟨q1, q2⟩ := bldP_pre (hd_len p hi) (hd_len p 1048576) hp2 g1
    have hlc : (twoB (hdN p 1048576) ++ (fill3 p 1048576).1.drop 12).length = (wholeB p).length := by
      rw [List.length_append, hd_len, c3, List.length_drop]
      have := g12 1048576
      rw [c3] at this
      dsimp only at this ⊢
      omega
    have hlh : (twoB (hdN p hi) ++ (fill3 p hi).1.drop 12).length = (fill3 p hi).1.length := by
      rw [List.length_append, hd_len, List.length_drop]; omega
    have hall : ((twoB (hdN p 1048576) ++ (fill3 p 1048576).1.drop 12).length : Int) ≤ hi → twoB (hdN p hi) ++ (fill3 p hi).1.drop 12 = twoB (hdN p 1048576) ++ (fill3 p 1048576).1.drop 12 := fun hx => by
      obtain ⟨d1, d2, d3⟩ := fill_all p hi (by omega)
      rw [hdN, hdN, c1, c2, c3, d1, d2, d3]
    by_cases hl : lo < ((bd0 p).length : Int)
    · rw [if_pos hl] at eL
      have hl4 : (bldP p lo).2 = 0 → False := fun hx => by rw [eL] at hx; simp at hx
      refine ⟨by rw [eC], fun hx => (hl4 hx).elim, fun hx => absurd (by rw [eH]) hx, fun _ => by rw [eL], fun hx => (hl4 hx).elim, fun hx => (hl4 hx).elim, fun hx => (hl4 hx).elim, fun hx => (hl4 hx).elim, fun hx => (hl4 hx).elim, fun hx => (hl4 hx).elim, fun hx => (hl4 hx).elim, ?_⟩
      rw [eC]
      dsimp only
      omega
    · rw [if_neg hl] at eL
      have hp1 := fill3_mono p h
      have g0 := g12 lo
      obtain ⟨q3, q4⟩ := bldP_pre (hd_len p lo) (hd_len p hi) hp1 g0
      constructor
      · rw [eC]
      · rw [eH]; intro; rfl
      · rw [eH]; intro hx; exact absurd rfl hx
      · rw [eL]; intro hx; exact absurd rfl hx
      · rw [eH, eC]; intro _; exact hall
      · rw [eH]; intro _; dsimp only; rw [hlh]; exact hle
      · rw [eH, eL]; intro _; exact q4
      · rw [eL]; intro _; dsimp only; rw [List.length_append, hd_len]; omega
      · rw [eH, eC]; intro _; exact q2
      · rw [eH, eL]; intro _; exact q3
      · rw [eH, eC]; intro _; exact q1
      · rw [eC]; dsimp only; omega

end Go.Proofs.Ytkkhbmpcpilmfaa.VL

/- Layer 17: names that stand in bytes are read there, and by pointers. -/
set_option linter.unusedVariables false
set_option linter.unusedSimpArgs false
namespace Go.Proofs.Ytkkhbmpcpilmfaa.VL
open Go Go.RowKit Go.Lib

theorem nmF_join (T : List UInt8) : ∀ (l : List (List UInt8)) (A : List UInt8) (k st j nx : Nat) (acc : List UInt8), okL l → acc.length + (joinB l).length ≤ 254 → l.length < k →
    nmF (A ++ (joinB l ++ (0 :: T))) k st j A.length nx acc = (acc ++ (joinB l ++ [0]), ((if j = 0 then A.length + (joinB l).length + 1 else nx : Nat) : Int), 0)
  | [], A, 0, _, _, _, _, _, _, h => by simp at h
  | [], A, k + 1, st, j, nx, acc, _, _, _ => by
    have hg : (A ++ (joinB [] ++ (0 :: T)))[A.length]? = some 0 := by rw [List.getElem?_append_right (Nat.le_refl _)]; simp [joinB]
    have hl : (A ++ (joinB [] ++ (0 :: T))).length = A.length + (1 + T.length) := by simp [joinB]; omega
    rw [nmF, hg]
    dsimp only
    rw [if_neg (by decide), if_neg (by rw [if_neg (by decide), hl]; simp), if_pos (by decide), if_pos (by decide)]
    simp only [joinB, List.flatMap_nil, List.nil_append, List.length_nil, Nat.add_zero]
    by_cases hj : j = 0
    · rw [if_pos hj, if_pos hj]
    · rw [if_neg hj, if_neg hj]
  | s :: l, A, 0, _, _, _, _, _, _, h => by simp at h
  | s :: l, A, k + 1, st, j, nx, acc, hok, hlen, hk => by
    obtain ⟨hs0', hs63⟩ := hok s (by simp)
    have hs0 : 0 < s.length := List.length_pos_iff.2 hs0'
    have hjc := joinB_cons l s
    have hjl : (joinB (s :: l)).length = 1 + s.length + (joinB l).length := by rw [hjc]; simp; omega
    have hc : (UInt8.ofNat s.length).toNat = s.length := by rw [UInt8.toNat_ofNat']; omega
    have e : A ++ (joinB (s :: l) ++ (0 :: T)) = (A ++ (UInt8.ofNat s.length :: s)) ++ (joinB l ++ (0 :: T)) := by rw [hjc]; simp
    have hg : ((A ++ (UInt8.ofNat s.length :: s)) ++ (joinB l ++ (0 :: T)))[A.length]? = some (UInt8.ofNat s.length) := by
      rw [List.append_assoc, List.getElem?_append_right (Nat.le_refl _)]; simp
    have hl : ((A ++ (UInt8.ofNat s.length :: s)) ++ (joinB l ++ (0 :: T))).length = A.length + (1 + s.length) + ((joinB l).length + (1 + T.length)) := by simp; omega
    have hA' : (A ++ (UInt8.ofNat s.length :: s)).length = A.length + (1 + s.length) := by simp; omega
    have hseg : List.drop A.length (List.take (A.length + (1 + s.length)) ((A ++ (UInt8.ofNat s.length :: s)) ++ (joinB l ++ (0 :: T)))) = UInt8.ofNat s.length :: s := by
      rw [List.take_left' hA', List.drop_left' rfl]
    rw [e, nmF, hg]
    dsimp only
    rw [hc, if_neg (by omega), if_neg (by rw [if_neg (by omega), hl]; omega), if_pos (by omega), if_neg (by omega), if_neg (by omega), hseg]
    have ih := nmF_join T l (A ++ (UInt8.ofNat s.length :: s)) k st j (if j = 0 then A.length + (1 + s.length) else nx) (acc ++ (UInt8.ofNat s.length :: s)) (fun x hx => hok x (by simp [hx])) (by rw [List.length_append, List.length_cons]; omega) (by simp at hk; omega)
    rw [hA'] at ih
    rw [ih, hjc]
    by_cases hj : j = 0
    · simp [hj]; omega
    · simp [hj]

/-- A right name is read at its place. -/
theorem nmP_at {n : List UInt8} (A T : List UInt8) (h : (lab n).isSome = true) : nmP (A ++ (n ++ T)) A.length = (n, ((A.length + n.length : Nat) : Int), 0) := by
  obtain ⟨l, hl⟩ := Option.isSome_iff_exists.1 h
  obtain ⟨e, hok, hlen⟩ := lab_some hl
  have hcount : l.length ≤ (joinB l).length := by rw [joinB_length]; omega
  unfold nmP
  rw [if_neg (by rw [List.length_append]; omega), Int.toNat_natCast, e, List.append_assoc]
  have := nmF_join T l A 272 A.length 0 0 [] hok (by simpa using hlen) (by omega)
  rw [List.singleton_append, this]
  simp
  omega
/-- A pointer to a right name. -/
theorem nmP_ptr {n : List UInt8} (A T : List UInt8) (x y : UInt8) (m : Nat) (h : (lab n).isSome = true) (hx : x.toNat = 192 + A.length / 256) (hy : y.toNat = A.length % 256) (hm : m = A.length + n.length) (hA : A.length < 16384) :
    nmP (A ++ (n ++ (x :: y :: T))) m = (n, ((m + 2 : Nat) : Int), 0) := by
  obtain ⟨l, hl⟩ := Option.isSome_iff_exists.1 h
  obtain ⟨e, hok, hlen⟩ := lab_some hl
  have hcount : l.length ≤ (joinB l).length := by rw [joinB_length]; omega
  have hn0 : 0 < n.length := by rw [e]; simp
  have hL : (A ++ (n ++ (x :: y :: T))).length = m + 2 + T.length := by simp; omega
  have g0 : (A ++ (n ++ (x :: y :: T)))[m]? = some x := by rw [← List.append_assoc, List.getElem?_append_right (by rw [List.length_append]; omega), List.length_append, hm, Nat.sub_self]; rfl
  have g1 : (A ++ (n ++ (x :: y :: T)))[m + 1]? = some y := by rw [← List.append_assoc, List.getElem?_append_right (by rw [List.length_append]; omega), List.length_append, hm, show A.length + n.length + 1 - (A.length + n.length) = 1 by omega]; rfl
  have hto : (x.toNat - 192) * 256 + y.toNat = A.length := by rw [hx, hy]; omega
  unfold nmP
  rw [if_neg (by rw [hL]; omega), Int.toNat_natCast, nmF, g0]
  dsimp only
  rw [g1, Option.getD_some, hto, if_neg (by omega), if_neg (by rw [if_pos (by omega), hL]; omega), if_neg (by omega), if_neg (by omega), if_pos rfl]
  have := nmF_join (x :: y :: T) l A 271 A.length (0 + 1) (m + 2) [] hok (by simpa using hlen) (by omega)
  rw [e, List.append_assoc, List.singleton_append, this]
  simp

end Go.Proofs.Ytkkhbmpcpilmfaa.VL

/- Layer 17: what is built is parsed as it was, plain. -/
set_option linter.unusedVariables false
set_option linter.unusedSimpArgs false
namespace Go.Proofs.Ytkkhbmpcpilmfaa.VL
open Go Go.RowKit Go.Lib

/-- Bytes that stand at a place. -/
def Pre (b : List UInt8) (i : Nat) (X : List UInt8) : Prop := i ≤ b.length ∧ X <+: b.drop i
theorem Pre.split {b : List UInt8} {i : Nat} {X Y : List UInt8} (h : Pre b i (X ++ Y)) : Pre b i X ∧ Pre b (i + X.length) Y := by
  obtain ⟨h0, t, h⟩ := h
  have hl := congrArg List.length h
  simp only [List.length_append, List.length_drop] at hl
  refine ⟨⟨h0, Y ++ t, by rw [← h]; simp⟩, ⟨by omega, t, ?_⟩⟩
  rw [← List.drop_drop, ← h, List.append_assoc, List.drop_left' rfl]
theorem Pre.len {b : List UInt8} {i : Nat} {X : List UInt8} (h : Pre b i X) : i + X.length ≤ b.length := by
  have := h.2.length_le
  rw [List.length_drop] at this
  have := h.1
  omega
theorem Pre.eq {b : List UInt8} {i : Nat} {X : List UInt8} (h : Pre b i X) : ∃ T, b = b.take i ++ (X ++ T) ∧ (b.take i).length = i := by
  obtain ⟨h0, t, h⟩ := h
  exact ⟨t, by rw [h, List.take_append_drop], by rw [List.length_take]; omega⟩
theorem Pre.take {b : List UInt8} {i : Nat} {X : List UInt8} (h : Pre b i X) : (b.take (i + X.length)).drop i = X := by
  obtain ⟨h0, t, h⟩ := h
  rw [List.drop_take, Nat.add_sub_cancel_left, ← h, List.take_left' rfl]
theorem Pre.get {b : List UInt8} {i : Nat} {c : UInt8} {X : List UInt8} (h : Pre b i (c :: X)) : b[i]? = some c ∧ Pre b (i + 1) X := by
  obtain ⟨h1, h2⟩ := Pre.split (X := [c]) (Y := X) h
  refine ⟨?_, h2⟩
  obtain ⟨h0, t, h⟩ := h1
  have := congrArg (·[0]?) h
  simp at this
  exact this.symm

theorem rdT_at {b : List UInt8} {i : Nat} {X : List UInt8} (h : Pre b i X) {n : Nat} (hn : n = X.length) : rdT b (i, 0) n = (X, i + n, 0) := by
  subst hn
  have := h.len
  rw [rdT, if_neg (by simp), if_neg (by dsimp only; omega), h.take]
theorem rdM_at {b : List UInt8} {i : Nat} {n : List UInt8} (h : Pre b i n) (hn : (lab n).isSome = true) : rdM b (i, 0) = (n, i + n.length, 0) := by
  obtain ⟨T, e, hl⟩ := h.eq
  have := nmP_at (b.take i) T hn
  rw [← e, hl] at this
  rw [rdM, if_neg (by simp)]
  dsimp only
  rw [this]
  rfl
theorem rdM_ptr {b : List UInt8} {i : Nat} {n : List UInt8} (h : Pre b i [192, 12]) (h12 : Pre b 12 n) (hi : 12 < i) (hn : (lab n).isSome = true) : rdM b (i, 0) = (n, i + 2, 0) := by
  obtain ⟨g0, h1⟩ := h.get
  obtain ⟨g1, _⟩ := h1.get
  have hle := h.len
  simp at hle
  obtain ⟨T, e, hl⟩ := h12.eq
  obtain ⟨l, hll⟩ := Option.isSome_iff_exists.1 hn
  obtain ⟨en, hok, hlen⟩ := lab_some hll
  have hcount : l.length ≤ (joinB l).length := by rw [joinB_length]; omega
  have hj := nmF_join T l (b.take 12) 271 12 1 (i + 2) [] hok (by simpa using hlen) (by omega)
  have eb : b = b.take 12 ++ (joinB l ++ (0 :: T)) := by rw [en, List.append_assoc, List.singleton_append] at e; exact e
  rw [← eb, hl] at hj
  rw [rdM, if_neg (by simp)]
  dsimp only
  unfold nmP
  rw [if_neg (by omega), Int.toNat_natCast, nmF, g0]
  dsimp only
  rw [g1, Option.getD_some]
  rw [if_neg (by decide), if_neg (by rw [if_pos (by decide)]; omega), if_neg (by decide), if_neg (by simp; omega), if_pos rfl]
  have e1 : ((192 : UInt8).toNat - 192) * 256 + (12 : UInt8).toNat = 12 := by decide
  rw [e1, show (0 + 1 : Nat) = 1 from rfl, hj, if_neg (by simp), en]
  rfl

theorem numV_two {n : Int} (h0 : 0 ≤ n) (h1 : n ≤ 65535) : ((numV (two1 n) : Nat) : Int) = n := by
  have e : numV (two1 n) = (b8 (n / 256)).toNat * 256 + (b8 n).toNat := by simp [numV, two1]
  rw [e]
  have h := wrap_b8 n
  have h' := wrap_b8 (n / 256)
  have hw : ∀ m : Int, IntKind.u8.wrap m = m % 256 := fun m => by simp [IntKind.wrap, IntKind.bits, IntKind.signed]
  rw [hw] at h h'
  omega
theorem numV_fold : ∀ (y : List UInt8) (a : Nat), y.foldl (fun a c => a * 256 + c.toNat) a = a * 256 ^ y.length + numV y
  | [], a => by simp [numV]
  | c :: y, a => by
    have e : numV (c :: y) = y.foldl (fun a c => a * 256 + c.toNat) (0 * 256 + c.toNat) := rfl
    rw [e, List.foldl_cons, numV_fold y, numV_fold y, List.length_cons, Nat.pow_succ, Nat.add_mul, Nat.zero_mul, Nat.zero_add, Nat.mul_assoc, Nat.mul_comm 256, Nat.add_assoc]
theorem numV_app (x y : List UInt8) : numV (x ++ y) = numV x * 256 ^ y.length + numV y := by
  rw [numV, List.foldl_append, numV_fold]
  rfl
theorem numV_two_lo (n : Int) : ((numV (two1 n) : Nat) : Int) = n % 65536 := by
  have e : numV (two1 n) = (b8 (n / 256)).toNat * 256 + (b8 n).toNat := by simp [numV, two1]
  rw [e]
  have h := wrap_b8 n
  have h' := wrap_b8 (n / 256)
  have hw : ∀ m : Int, IntKind.u8.wrap m = m % 256 := fun m => by simp [IntKind.wrap, IntKind.bits, IntKind.signed]
  rw [hw] at h h'
  omega
theorem numV_four {n : Int} (h0 : 0 ≤ n) (h1 : n ≤ 2147483647) : ((numV (two1 (n / 65536) ++ two1 n) : Nat) : Int) = n := by
  rw [numV_app]
  have a := numV_two_lo (n / 65536)
  have c := numV_two_lo n
  have : (two1 n).length = 2 := rfl
  rw [this]
  omega
theorem win_le {n t : Int} (h : win n t = true) : 0 ≤ n ∧ n ≤ t := by
  unfold win at h
  simpa using h

theorem qnR_at {b : List UInt8} {i : Nat} {q : Qn} (h : Pre b i (qnB q)) (hq : qOk q = true) : qnR b (i, 0) = (q, (i + (qnB q).length, 0)) := by
  obtain ⟨n, t, c⟩ := q
  unfold qOk at hq
  simp only [Bool.and_eq_true] at hq
  obtain ⟨h1, h2, h3⟩ := hq
  obtain ⟨t0, t1⟩ := win_le h2
  obtain ⟨c0, c1⟩ := win_le h3
  have e : qnB ⟨n, t, c⟩ = n ++ (two1 t ++ two1 c) := by simp [qnB, twoB, qnN]
  rw [e] at h ⊢
  obtain ⟨g1, g2⟩ := h.split
  obtain ⟨g3, g4⟩ := g2.split
  have r1 := rdM_at g1 h1
  have r2 := rdT_at g3 (n := 2) rfl
  have r3 := rdT_at g4 (n := 2) rfl
  rw [show i + n.length + (two1 t).length = i + n.length + 2 from rfl] at r3
  unfold qnR rdN
  rw [r1]
  dsimp only
  rw [r2]
  dsimp only
  rw [r3]
  dsimp only
  rw [numV_two t0 t1, numV_two c0 c1]
  have : (n ++ (two1 t ++ two1 c)).length = n.length + 4 := by simp [two1]
  rw [this, Nat.add_assoc, Nat.add_assoc]
theorem qsB_cons (q : Qn) (l : List Qn) : qsB (q :: l) = qnB q ++ qsB l := by simp [qsB]
theorem qsR_at {b : List UInt8} : ∀ (l : List Qn) (i : Nat) (acc : List Qn), Pre b i (qsB l) → (∀ q ∈ l, qOk q = true) → qsR b l.length (i, 0) acc = (acc ++ l, (i + (qsB l).length, 0))
  | [], i, acc, _, _ => by simp [qsR, qsB]
  | q :: l, i, acc, h, hq => by
    rw [qsB_cons] at h
    obtain ⟨h1, h2⟩ := h.split
    rw [List.length_cons, qsR, if_pos rfl, qnR_at h1 (hq q (by simp))]
    dsimp only
    rw [qsR_at l _ _ h2 fun x hx => hq x (by simp [hx]), qsB_cons, List.length_append, List.append_assoc, List.singleton_append, Nat.add_assoc]

def qn0 (p : Pk) : List UInt8 := match p.q with
  | [] => []
  | q :: _ => q.n
/-- A record, as it is read. -/
def backR (p : Pk) (r : Rr) : Rr := ⟨if isQ p r then qn0 p else r.n, r.t, r.c, r.l, r.d⟩
theorem isQ_qn0 {p : Pk} {r : Rr} (h : isQ p r = true) : sameN r.n (qn0 p) = true := by
  unfold isQ at h
  unfold qn0
  split at h
  · cases h
  · rename_i q l e
    rw [e]
    exact h
theorem sameN_right {a b : List UInt8} (h : sameN a b = true) : (lab a).isSome = true ∧ (lab b).isSome = true ∧ lowB a = lowB b := by
  unfold sameN at h
  simpa using h
theorem sameN_comm (a b : List UInt8) : sameN a b = sameN b a := by
  unfold sameN
  rw [show decide (lowB a = lowB b) = decide (lowB b = lowB a) from by simp [eq_comm], Bool.and_left_comm]
theorem rrR_at {p : Pk} {b : List UInt8} {i : Nat} {r : Rr} (h : Pre b i (rrB p r)) (hr : rOk r = true) (h12 : Pre b 12 (qn0 p)) (hi : p.q ≠ [] → 12 < i) : rrR b (i, 0) = (backR p r, (i + (rrB p r).length, 0)) := by
  have hr0 := hr
  unfold rOk at hr
  simp only [Bool.and_eq_true, decide_eq_true_eq] at hr
  obtain ⟨h1, h2, h3, h4, h5⟩ := hr
  obtain ⟨t0, t1⟩ := win_le h2
  obtain ⟨c0, c1⟩ := win_le h3
  obtain ⟨l0, l1⟩ := win_le h4
  have e : rrB p r = nmB p r ++ (two1 r.t ++ (two1 r.c ++ ((two1 (r.l / 65536) ++ two1 r.l) ++ (two1 r.d.length ++ r.d)))) := by simp [rrB, twoB, rrN]
  rw [e] at h ⊢
  obtain ⟨g1, g⟩ := h.split
  obtain ⟨g2, g⟩ := g.split
  obtain ⟨g3, g⟩ := g.split
  obtain ⟨g4, g⟩ := g.split
  obtain ⟨g5, g6⟩ := g.split
  have r1 : rdM b (i, 0) = (if isQ p r then qn0 p else r.n, i + (nmB p r).length, 0) := by
    cases hq : isQ p r with
    | true =>
      have en : nmB p r = [192, 12] := by rw [nmB, hq, if_pos rfl]
      rw [en] at g1 ⊢
      have hne : p.q ≠ [] := fun hn => by unfold isQ at hq; rw [hn] at hq; cases hq
      rw [rdM_ptr g1 h12 (hi hne) (sameN_right (isQ_qn0 hq)).2.1]
      rfl
    | false =>
      have en : nmB p r = r.n := by rw [nmB, hq, if_neg (by simp)]
      rw [en] at g1 ⊢
      rw [rdM_at g1 h1]
      rfl
  have r2 := rdT_at g2 (n := 2) rfl
  have r3 := rdT_at g3 (n := 2) rfl
  have r4 := rdT_at g4 (n := 4) rfl
  have r5 := rdT_at g5 (n := 2) rfl
  have r6 := rdT_at g6 rfl
  simp only [List.length_append, show ∀ n, (two1 n).length = 2 from fun _ => rfl, Nat.reduceAdd] at r2 r3 r4 r5 r6
  have eS : rrS b (i, 0) = (i + (nmB p r).length + 2 + 2 + 4, 0) := by
    unfold rrS
    rw [r1]; dsimp only
    rw [r2]; dsimp only
    rw [r3]; dsimp only
    rw [r4]
  have hd5 := h5
  have e5 : numV (two1 (r.d.length : Int)) = r.d.length := by
    have := numV_two (n := (r.d.length : Int)) (by omega) (by omega)
    omega
  unfold rrR
  rw [eS]
  unfold rdN
  rw [r5]; dsimp only
  rw [e5, r6, r1]; dsimp only
  rw [r2]; dsimp only
  rw [r3]; dsimp only
  rw [r4]; dsimp only
  rw [numV_two t0 t1, numV_two c0 c1, numV_four l0 l1]
  unfold backR
  simp only [List.length_append, show ∀ n, (two1 n).length = 2 from fun _ => rfl, Prod.mk.injEq, true_and, and_true]
  omega
theorem rsR_at {p : Pk} {b : List UInt8} (h12 : Pre b 12 (qn0 p)) : ∀ (l : List Rr) (i : Nat) (acc : List Rr), Pre b i (rsB p l) → (∀ r ∈ l, rOk r = true) → (p.q ≠ [] → 12 < i) → rsR b l.length (i, 0) acc = (acc ++ l.map (backR p), (i + (rsB p l).length, 0))
  | [], i, acc, _, _, _ => by simp [rsR, rsB]
  | r :: l, i, acc, h, hr, hi => by
    rw [rsB_cons] at h
    obtain ⟨h1, h2⟩ := h.split
    rw [List.length_cons, rsR, if_pos rfl, rrR_at h1 (hr r (by simp)) h12 hi]
    dsimp only
    rw [rsR_at h12 l _ _ h2 (fun x hx => hr x (by simp [hx])) (fun hn => by have := hi hn; omega), rsB_cons, List.length_append, List.append_assoc, List.map_cons, List.singleton_append, Nat.add_assoc]

theorem fillR_cut (p : Pk) (lim : Int) : ∀ (l : List Rr) (acc : List UInt8), (fillR p lim acc l).2.2 = true → (fillR p lim acc l).2.1 < l.length
  | [], acc, h => by simp [fillR] at h
  | r :: l, acc, h => by
    by_cases hc : lim < ((acc ++ rrB p r).length : Int)
    · rw [fillR, if_pos hc]; simp
    · rw [fillR, if_neg hc] at h ⊢
      have := fillR_cut p lim l (acc ++ rrB p r) h
      simp only [List.length_cons]
      omega
/-- What is built: the first records of each list. -/
structure Built (p : Pk) (lim : Int) : Prop where
  e : (fill3 p lim).1 = bd0 p ++ rsB p (p.a.take (fill1 p lim).2.1) ++ rsB p (p.u.take (fill2 p lim).2.1) ++ rsB p (p.m.take (fill3 p lim).2.1)
  a : (fill1 p lim).2.1 ≤ p.a.length
  u : (fill2 p lim).2.1 ≤ p.u.length
  m : (fill3 p lim).2.1 ≤ p.m.length
  whole : (fill3 p lim).2.2 = false ↔ ((fill1 p lim).2.1 = p.a.length ∧ (fill2 p lim).2.1 = p.u.length ∧ (fill3 p lim).2.1 = p.m.length)
theorem built (p : Pk) (lim : Int) : Built p lim := by
  obtain ⟨a1, a2, a3⟩ := fillR_take p lim p.a (bd0 p)
  have a4 := fillR_cut p lim p.a (bd0 p)
  change (fill1 p lim).1 = _ at a1
  change (fill1 p lim).2.1 ≤ _ at a2
  change (fill1 p lim).2.2 = _ → (fill1 p lim).2.1 = _ at a3
  change (fill1 p lim).2.2 = _ → (fill1 p lim).2.1 < _ at a4
  change (fill1 p lim).1 = bd0 p ++ rsB p (p.a.take (fill1 p lim).2.1) at a1
  cases c1 : (fill1 p lim).2.2 with
  | true =>
    have e2 : fill2 p lim = ((fill1 p lim).1, 0, true) := by rw [fill2, c1, if_pos rfl]
    have e3 : fill3 p lim = ((fill1 p lim).1, 0, true) := by rw [fill3, e2, if_pos rfl]
    have := a4 c1
    refine ⟨?_, a2, ?_, ?_, ?_⟩
    · rw [e3, e2]; dsimp only; rw [a1]; simp [rsB]
    · rw [e2]; exact Nat.zero_le _
    · rw [e3]; exact Nat.zero_le _
    · rw [e3]; simp; omega
  | false =>
    have e2 : fill2 p lim = fillR p lim (fill1 p lim).1 p.u := by rw [fill2, c1, if_neg (by simp)]
    obtain ⟨b1, b2, b3⟩ := fillR_take p lim p.u (fill1 p lim).1
    have b4 := fillR_cut p lim p.u (fill1 p lim).1
    rw [← e2] at b1 b2 b3 b4
    cases c2 : (fill2 p lim).2.2 with
    | true =>
      have e3 : fill3 p lim = ((fill2 p lim).1, 0, true) := by rw [fill3, c2, if_pos rfl]
      have := b4 c2
      refine ⟨?_, a2, b2, ?_, ?_⟩
      · rw [e3]; dsimp only; rw [b1, a1]; simp [rsB]
      · rw [e3]; exact Nat.zero_le _
      · rw [e3]; simp; omega
    | false =>
      have e3 : fill3 p lim = fillR p lim (fill2 p lim).1 p.m := by rw [fill3, c2, if_neg (by simp)]
      obtain ⟨d1, d2, d3⟩ := fillR_take p lim p.m (fill2 p lim).1
      have d4 := fillR_cut p lim p.m (fill2 p lim).1
      rw [← e3] at d1 d2 d3 d4
      refine ⟨by rw [d1, b1, a1], a2, b2, d2, ?_⟩
      cases c3 : (fill3 p lim).2.2 with
      | true => simp only [Bool.true_eq_false, false_iff]; have := d4 c3; omega
      | false => simp only [true_iff]; exact ⟨a3 c1, b3 c2, d3 c3⟩

theorem ior_512 {n : Int} (h0 : 0 ≤ n) (h1 : n ≤ 65535) : win (ior .i64 n 512) 65535 = true := by
  rw [ior_i64 h0 (by omega) (by omega) (by omega)]
  have hb : n.toNat ||| 512 < 2 ^ 16 := Nat.or_lt_two_pow (by omega) (by decide)
  unfold win
  rw [show (512 : Int).toNat = 512 from rfl]
  generalize n.toNat ||| 512 = z at *
  simp
  omega
theorem lab_backR {p : Pk} {r : Rr} (h : rOk r = true) : rOk (backR p r) = true ∧ sameN (backR p r).n r.n = true := by
  unfold rOk at h ⊢
  simp only [Bool.and_eq_true] at h ⊢
  unfold backR
  cases hq : isQ p r with
  | true =>
    have hs := isQ_qn0 hq
    simp only [if_pos]
    exact ⟨⟨(sameN_right hs).2.1, h.2⟩, by rw [sameN_comm]; exact hs⟩
  | false =>
    simp only [Bool.false_eq_true, if_false]
    exact ⟨h, by unfold sameN; simp [h.1]⟩

/-- Whether records are the first ones of others, but for letters of names. -/
def bgn1 (x y : Rr) : Bool := sameN x.n y.n && (decide (x.t = y.t) && (decide (x.c = y.c) && (decide (x.l = y.l) && decide (x.d = y.d))))
def bgn : List Rr → List Rr → Bool
  | [], _ => true
  | _ :: _, [] => false
  | x :: l, y :: m => bgn1 x y && bgn l m
theorem bgn_back (p : Pk) : ∀ (l : List Rr) (n : Nat), (∀ r ∈ l, rOk r = true) → bgn ((l.take n).map (backR p)) l = true
  | [], n, _ => by simp [bgn]
  | r :: l, 0, _ => by simp [bgn]
  | r :: l, n + 1, h => by
    rw [List.take_succ_cons, List.map_cons, bgn, bgn_back p l n fun x hx => h x (by simp [hx]), Bool.and_true, bgn1, (lab_backR (h r (by simp))).2]
    simp [backR]

/-- The law on what is built. -/
structure BackLaw (p : Pk) (lim : Int) (b : List UInt8) (n1 n2 n3 : Nat) (cut : Bool) : Prop where
  e : psE b = 0
  l : (b.length : Int) ≤ lim
  r : psR b = ⟨p.id, if cut then ior .i64 p.fl 512 else p.fl, p.q, (p.a.take n1).map (backR p), (p.u.take n2).map (backR p), (p.m.take n3).map (backR p)⟩
  a : n1 ≤ p.a.length
  u : n2 ≤ p.u.length
  m : n3 ≤ p.m.length
  whole : cut = false ↔ (n1 = p.a.length ∧ n2 = p.u.length ∧ n3 = p.m.length)
theorem back_law {p : Pk} (hok : pOk p = true) {lim : Int} (hlim : lim ≤ 65535) (h : (bldP p lim).2 = 0) : BackLaw p lim (bldP p lim).1 (fill1 p lim).2.1 (fill2 p lim).2.1 (fill3 p lim).2.1 (fill3 p lim).2.2 := by
  have hpo := pOk_len hok
  have hB := built p lim
  have eb := bldP_eq hok lim
  by_cases hc : lim < ((bd0 p).length : Int)
  · rw [if_pos hc] at eb; rw [eb] at h; simp at h
  rw [if_neg hc] at eb
  have hle := fill3_le p (lim := lim) (by omega)
  have h12 := fill3_ge hpo lim
  have hhl := hd_len p lim
  have hz : (zerosB 12).length = 12 := by simp [zerosB]
  obtain ⟨hBe, ha, hu, hm, hwh⟩ := hB
  have hok0 := hok
  unfold pOk at hok0
  simp only [Bool.and_eq_true] at hok0
  obtain ⟨k1, k2, k3, k4, k5, k6⟩ := hok0
  obtain ⟨i0, i1⟩ := win_le k1
  obtain ⟨f0, f1⟩ := win_le k2
  have hfl : 0 ≤ (if (fill3 p lim).2.2 then ior .i64 p.fl 512 else p.fl) ∧ (if (fill3 p lim).2.2 then ior .i64 p.fl 512 else p.fl) ≤ 65535 := by
    split
    · exact win_le (ior_512 f0 f1)
    · exact ⟨f0, f1⟩
  have e12 : (fill3 p lim).1.drop 12 = qsB p.q ++ (rsB p (p.a.take (fill1 p lim).2.1) ++ (rsB p (p.u.take (fill2 p lim).2.1) ++ rsB p (p.m.take (fill3 p lim).2.1))) := by
    rw [hBe, bd0]
    simp only [List.append_assoc]
    exact List.drop_left' hz
  have hbl : (bldP p lim).1.length = (fill3 p lim).1.length := by rw [eb]; dsimp only; rw [List.length_append, hhl, List.length_drop]; omega
  have hpre0 : Pre (bldP p lim).1 0 (twoB (hdN p lim) ++ (qsB p.q ++ (rsB p (p.a.take (fill1 p lim).2.1) ++ (rsB p (p.u.take (fill2 p lim).2.1) ++ rsB p (p.m.take (fill3 p lim).2.1))))) := by
    refine ⟨Nat.zero_le _, ?_⟩
    rw [eb, List.drop_zero, ← e12]
    exact List.prefix_refl _
  have hlen : (bldP p lim).1.length = 12 + ((qsB p.q).length + ((rsB p (p.a.take (fill1 p lim).2.1)).length + ((rsB p (p.u.take (fill2 p lim).2.1)).length + (rsB p (p.m.take (fill3 p lim).2.1)).length))) := by
    rw [eb]; dsimp only; rw [e12]; simp only [List.length_append, hhl]
  generalize (bldP p lim).1 = b at *
  obtain ⟨g, gq⟩ := hpre0.split
  rw [hhl, Nat.zero_add] at gq
  obtain ⟨gq1, ga⟩ := gq.split
  clear gq
  obtain ⟨ga1, gu⟩ := ga.split
  obtain ⟨gu1, gm⟩ := gu.split
  clear ga gu
  have la := hpo.la
  have lu := hpo.lu
  have lm := hpo.lm
  have lq := hpo.lq
  generalize hn1 : (fill1 p lim).2.1 = n1 at *
  generalize hn2 : (fill2 p lim).2.1 = n2 at *
  generalize hn3 : (fill3 p lim).2.1 = n3 at *
  have eh : twoB (hdN p lim) = two1 p.id ++ (two1 (if (fill3 p lim).2.2 then ior .i64 p.fl 512 else p.fl) ++ (two1 p.q.length ++ (two1 n1 ++ (two1 n2 ++ two1 n3)))) := by
    rw [hdN, hn1, hn2, hn3]; simp [twoB]
  rw [eh] at g
  generalize hff : (if (fill3 p lim).2.2 then ior .i64 p.fl 512 else p.fl) = ff at *
  obtain ⟨v0, g⟩ := g.split
  obtain ⟨v1, g⟩ := g.split
  obtain ⟨v2, g⟩ := g.split
  obtain ⟨v3, g⟩ := g.split
  obtain ⟨v4, v5⟩ := g.split
  have t0 := rdT_at v0 (n := 2) rfl
  have t1 := rdT_at v1 (n := 2) rfl
  have t2 := rdT_at v2 (n := 2) rfl
  have t3 := rdT_at v3 (n := 2) rfl
  have t4 := rdT_at v4 (n := 2) rfl
  have t5 := rdT_at v5 (n := 2) rfl
  simp only [show ∀ n, (two1 n).length = 2 from fun _ => rfl, Nat.reduceAdd] at t0 t1 t2 t3 t4 t5
  have s0 : hdS b 0 = (0, 0) := rfl
  have s1 : hdS b 1 = (2, 0) := by rw [hdS, s0, t0]
  have s2 : hdS b 2 = (4, 0) := by rw [hdS, s1, t1]
  have s3 : hdS b 3 = (6, 0) := by rw [hdS, s2, t2]
  have s4 : hdS b 4 = (8, 0) := by rw [hdS, s3, t3]
  have s5 : hdS b 5 = (10, 0) := by rw [hdS, s4, t4]
  have s6 : hdS b 6 = (12, 0) := by rw [hdS, s5, t5]
  have w0 : (hdV b 0 : Int) = p.id := by rw [hdV, rdN, s0, t0]; exact numV_two i0 i1
  have w1 : (hdV b 1 : Int) = ff := by rw [hdV, rdN, s1, t1]; exact numV_two hfl.1 hfl.2
  have w2 : hdV b 2 = p.q.length := by have : (hdV b 2 : Int) = p.q.length := by (rw [hdV, rdN, s2, t2]; exact numV_two (by omega) (by omega))
                                       omega
  have w3 : hdV b 3 = n1 := by have : (hdV b 3 : Int) = n1 := by (rw [hdV, rdN, s3, t3]; exact numV_two (by omega) (by omega))
                               omega
  have w4 : hdV b 4 = n2 := by have : (hdV b 4 : Int) = n2 := by (rw [hdV, rdN, s4, t4]; exact numV_two (by omega) (by omega))
                               omega
  have w5 : hdV b 5 = n3 := by have : (hdV b 5 : Int) = n3 := by (rw [hdV, rdN, s5, t5]; exact numV_two (by omega) (by omega))
                               omega
  unfold qsOk at k3
  unfold rsOk at k4 k5 k6
  simp only [Bool.and_eq_true, decide_eq_true_eq, List.all_eq_true] at k3 k4 k5 k6
  have eQ : psQ b = (p.q, (12 + (qsB p.q).length, 0)) := by
    rw [psQ, w2, s6, qsR_at p.q 12 [] gq1 k3.2, List.nil_append]
  have h12q : Pre b 12 (qn0 p) := by
    unfold qn0
    cases hq : p.q with
    | nil => exact ⟨by omega, List.nil_prefix⟩
    | cons q l =>
      rw [hq, qsB_cons, qnB, List.append_assoc] at gq1
      exact gq1.split.1
  have hi12 : p.q ≠ [] → 12 < 12 + (qsB p.q).length := fun hn => by
    cases hq : p.q with
    | nil => exact absurd hq hn
    | cons q l => rw [qsB_cons, qnB]; simp [twoB, qnN, two1]; omega
  have lta : (p.a.take n1).length = n1 := by rw [List.length_take]; omega
  have ltu : (p.u.take n2).length = n2 := by rw [List.length_take]; omega
  have ltm : (p.m.take n3).length = n3 := by rw [List.length_take]; omega
  have eA : psA b = ((p.a.take n1).map (backR p), (12 + (qsB p.q).length + (rsB p (p.a.take n1)).length, 0)) := by
    have := rsR_at h12q (p.a.take n1) _ [] ga1 (fun r hr => k4.2 r (List.mem_of_mem_take hr)) hi12
    rw [lta, List.nil_append] at this
    rw [psA, w3, eQ]; exact this
  have eU : psU b = ((p.u.take n2).map (backR p), (12 + (qsB p.q).length + (rsB p (p.a.take n1)).length + (rsB p (p.u.take n2)).length, 0)) := by
    have := rsR_at h12q (p.u.take n2) _ [] gu1 (fun r hr => k5.2 r (List.mem_of_mem_take hr)) (fun hn => by have := hi12 hn; omega)
    rw [ltu, List.nil_append] at this
    rw [psU, w4, eA]; exact this
  have eM : psM b = ((p.m.take n3).map (backR p), (12 + (qsB p.q).length + (rsB p (p.a.take n1)).length + (rsB p (p.u.take n2)).length + (rsB p (p.m.take n3)).length, 0)) := by
    have := rsR_at h12q (p.m.take n3) _ [] gm (fun r hr => k6.2 r (List.mem_of_mem_take hr)) (fun hn => by have := hi12 hn; omega)
    rw [ltm, List.nil_append] at this
    rw [psM, w5, eU]; exact this
  have eR : psR b = ⟨p.id, ff, p.q, (p.a.take n1).map (backR p), (p.u.take n2).map (backR p), (p.m.take n3).map (backR p)⟩ := by
    rw [psR, w0, w1, eQ, eA, eU, eM]
  have okM : ∀ (l : List Rr) (n : Nat), l.length ≤ 100 → (∀ r ∈ l, rOk r = true) → rsOk ((l.take n).map (backR p)) = true := fun l n hl hr => by
    unfold rsOk
    simp only [Bool.and_eq_true, decide_eq_true_eq, List.all_eq_true, List.mem_map, List.length_map, List.length_take]
    exact ⟨by omega, fun x ⟨r, h1, h2⟩ => h2 ▸ (lab_backR (hr r (List.mem_of_mem_take h1))).1⟩
  have okR : pOk (psR b) = true := by
    rw [eR]
    unfold pOk qsOk
    simp only [Bool.and_eq_true, decide_eq_true_eq, List.all_eq_true]
    exact ⟨k1, by unfold win; simp [hfl.1, hfl.2], k3, okM _ _ k4.1 k4.2, okM _ _ k5.1 k5.2, okM _ _ k6.1 k6.2⟩
  refine ⟨?_, by omega, by rw [eR, ← hff], ha, hu, hm, hwh⟩
  unfold psE
  rw [if_neg (by omega), if_neg (by omega), eM]
  dsimp only
  rw [if_neg (by simp), if_neg (by omega), okR, if_neg (by simp)]

end Go.Proofs.Ytkkhbmpcpilmfaa.VL

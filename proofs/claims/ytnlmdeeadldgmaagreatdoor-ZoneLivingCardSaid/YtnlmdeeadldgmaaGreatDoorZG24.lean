/- Layer 1: whether bytes are the same. -/
import Derived.Test.YtnlmdeeadldgmaaGreatDoorZVLWalk
import Derived.Test.YtnlmdeeadldgmaaGreatDoorZG23
import Derived.Test.YtnlmdeeadldgmaaGreatDoorZG22
import Derived.Test.YtnlmdeeadldgmaaGreatDoorZG17
-- STEPWISE
-- WK
set_option linter.unusedVariables false
set_option linter.unusedSimpArgs false
set_option maxRecDepth 10000
namespace Go.Proofs.YtnlmdeeadldgmaaGreatDoor.VL
open Go Go.RowKit Go.Lib

theorem same_spec (a b : List UInt8) (ha : a.length ≤ 1099511627776) (hb : b.length ≤ 1099511627776) (H : List Box) : ASpec Tryz.prog 41 [vB a, vB b] H (Gives (vb (decide (a = b))) H) := by
  refine ASpec.enter Tryz.func41 rfl (fun a w => Tryz.call41 a w) Tryz.ntmps41 Tryz.results41 fun base w β hI => ?_
  refine wk wT (wA DrM.mk wT) ?_
  refine wkEnd wT ?_
  exact Fin.same ⟨rfl, rfl⟩

end Go.Proofs.YtnlmdeeadldgmaaGreatDoor.VL

/- Layer 15: services, as plain values; their laws. -/
set_option linter.unusedVariables false
set_option linter.unusedSimpArgs false
set_option maxRecDepth 10000
namespace Go.Proofs.YtnlmdeeadldgmaaGreatDoor.VL
open Go Go.RowKit Go.Lib

structure Sv where
  n : List UInt8
  p : List UInt8
  o : Int
  i : Int
  w : Int
  l : Bool
deriving DecidableEq
abbrev svC (s : Sv) : List AV := [vs s.n, vs s.p, vi s.o, vi s.i, vi s.w, vb s.l]
def svZ : Sv := ⟨[], [], 0, 0, 0, false⟩
abbrev svG (l : List Sv) : List (List AV) := l.map svC
@[go_sem] theorem svG_length (l : List Sv) : (svG l).length = l.length := by simp [svG]
@[go_sem] theorem svG_get (l : List Sv) (i : Nat) : (svG l)[i]? = (l[i]?).map svC := by simp [svG]
theorem lt_sv {n : Nat} (l : List Sv) : Lt n (.lst 6 (svG l)) := .lst _ _ fun i j g c hi hj => by
  simp only [svG, List.getElem?_map] at hi
  obtain ⟨b, _, rfl⟩ := Option.map_eq_some_iff.1 hi
  rcases j with _ | _ | _ | _ | _ | _ | j <;> simp at hj <;> subst hj <;> exact .v _

/-- The letters of words. -/
def plainB : List UInt8 := [97, 98, 99, 100, 101, 102, 103, 104, 105, 106, 107, 108, 109, 110, 111, 112, 113, 114, 115, 116, 117, 118, 119, 120, 121, 122, 48, 49, 50, 51, 52, 53, 54, 55, 56, 57, 45]
def isPl (c : UInt8) : Bool := plainB.contains c
/-- Whether a text is a word. -/
def wordOk (s : List UInt8) : Bool := decide (0 < s.length) && (decide (s.length ≤ 20) && (s.all isPl && (decide (s[0]? ≠ some 45) && decide (s[s.length - 1]? ≠ some 45))))
def sh16 (n : Int) : Bool := decide (0 ≤ n) && decide (n ≤ 65535)
def svOk (s : Sv) : Bool := wordOk s.n && (wordOk s.p && (decide (1 ≤ s.o) && (sh16 s.o && (sh16 s.i && sh16 s.w))))
def b01 (b : Bool) : Int := if b then 1 else 0
def encB (s : Sv) : List UInt8 := textB s.n ++ textB s.p ++ numsB [s.o, s.i, s.w, b01 s.l]
def encS (s : Sv) : List UInt8 × Int := if svOk s then (encB s, 0) else ([], 1)

/-- Four numbers, as long as nothing is wrong. -/
def tk4 (r : List UInt8) (e : Int) : Nat → List Int × List UInt8 × Int
  | 0 => ([0, 0, 0, 0], r, e)
  | i + 1 => if (tk4 r e i).2.2 = 0 then ((tk4 r e i).1.set i ((tk (tk4 r e i).2.1).1 : Int), (tk (tk4 r e i).2.1).2.1, (tk (tk4 r e i).2.1).2.2) else tk4 r e i
def mkSv (n p : List UInt8) (l : List Int) : Sv := ⟨n, p, l.getD 0 0, l.getD 1 0, l.getD 2 0, decide (l.getD 3 0 = 1)⟩
/-- A value's service. -/
def decS (v : List UInt8) : Sv × Int :=
  if (tt v 20).2.2 ≠ 0 then (svZ, (tt v 20).2.2) else
  let s4 := tk4 (tt (tt v 20).2.1 20).2.1 (tt (tt v 20).2.1 20).2.2 4
  let s := mkSv (tt v 20).1 (tt (tt v 20).2.1 20).1 s4.1
  if s4.2.2 ≠ 0 then (svZ, s4.2.2) else if 0 < s4.2.1.length ∨ 1 < s4.1.getD 3 0 ∨ svOk s = false then (svZ, 3) else (s, 0)

theorem tk4_len (r : List UInt8) (e : Int) : ∀ i, (tk4 r e i).1.length = 4
  | 0 => rfl
  | i + 1 => by
    rw [tk4]
    split
    · rw [List.length_set]; exact tk4_len r e i
    · exact tk4_len r e i
theorem tk4_err (r : List UInt8) (e : Int) {i : Nat} (h : (tk4 r e i).2.2 ≠ 0) : ∀ k, tk4 r e (i + k) = tk4 r e i
  | 0 => rfl
  | k + 1 => by
    have ih := tk4_err r e h k
    rw [show i + (k + 1) = (i + k) + 1 from rfl, tk4, ih, if_neg h]
theorem tk_facts (bs : List UInt8) : (tk bs).2.1.length ≤ bs.length ∧ (tk bs).1 ≤ 4611686018427387904 ∧ 0 ≤ (tk bs).2.2 ∧ (tk bs).2.2 ≤ 3 := tkGo_facts 9 0 0 bs
theorem tk4_rest (r : List UInt8) (e : Int) : ∀ i, (tk4 r e i).2.1.length ≤ r.length
  | 0 => Nat.le_refl _
  | i + 1 => by
    rw [tk4]
    have := tk4_rest r e i
    have := (tk_facts (tk4 r e i).2.1).1
    split
    · dsimp only; omega
    · assumption

theorem wordOk_len {s : List UInt8} (h : wordOk s = true) : 0 < s.length ∧ s.length ≤ 20 := by
  unfold wordOk at h
  simp only [Bool.and_eq_true, decide_eq_true_eq] at h
  exact ⟨h.1, h.2.1⟩
theorem sh16_le {n : Int} (h : sh16 n = true) : 0 ≤ n ∧ n ≤ 65535 := by
  unfold sh16 at h; simpa using h
theorem nb16 {n : Int} (h0 : 0 ≤ n) (h1 : n ≤ 65535) : (numB n).length ≤ 3 := by
  rw [numB_ok (by simp [okNum]; omega)]
  exact nb_length_le 3 _ (by have : (128 : Nat) ^ 3 = 2097152 := by decide
                             omega) (by decide)
/-- What is encoded is decoded as it was. -/
theorem dec_enc {s : Sv} (h : svOk s = true) : decS (encB s) = (s, 0) ∧ (encB s).length ≤ 200 := by
  obtain ⟨n, p, o, i, w, l⟩ := s
  have h0 := h
  unfold svOk at h
  simp only [Bool.and_eq_true, decide_eq_true_eq] at h
  obtain ⟨h1, h2, h3, h4, h5, h6⟩ := h
  obtain ⟨n0, n1⟩ := wordOk_len h1
  obtain ⟨p0, p1⟩ := wordOk_len h2
  obtain ⟨o0, o1⟩ := sh16_le h4
  obtain ⟨i0, i1⟩ := sh16_le h5
  obtain ⟨w0, w1⟩ := sh16_le h6
  have hl0 : 0 ≤ b01 l ∧ b01 l ≤ 1 := by unfold b01; split <;> omega
  have e : encB ⟨n, p, o, i, w, l⟩ = textB n ++ (textB p ++ (numB o ++ (numB i ++ (numB w ++ (numB (b01 l) ++ []))))) := by simp [encB, numsB]
  refine ⟨?_, ?_⟩
  · have t1 := tt_textB n (textB p ++ (numB o ++ (numB i ++ (numB w ++ (numB (b01 l) ++ []))))) 20 (by omega) (by omega)
    have t2 := tt_textB p (numB o ++ (numB i ++ (numB w ++ (numB (b01 l) ++ [])))) 20 (by omega) (by omega)
    have k1 := tk_numB o (numB i ++ (numB w ++ (numB (b01 l) ++ []))) o0 (by omega)
    have k2 := tk_numB i (numB w ++ (numB (b01 l) ++ [])) i0 (by omega)
    have k3 := tk_numB w (numB (b01 l) ++ []) w0 (by omega)
    have k4 := tk_numB (b01 l) [] hl0.1 (by omega)
    have e4 : tk4 (numB o ++ (numB i ++ (numB w ++ (numB (b01 l) ++ [])))) 0 4 = ([o, i, w, b01 l], [], 0) := by
      have s1 : tk4 (numB o ++ (numB i ++ (numB w ++ (numB (b01 l) ++ [])))) 0 1 = ([o, 0, 0, 0], numB i ++ (numB w ++ (numB (b01 l) ++ [])), 0) := by
        rw [tk4, tk4]; dsimp only; rw [if_pos rfl, k1]; simp; omega
      have s2 : tk4 (numB o ++ (numB i ++ (numB w ++ (numB (b01 l) ++ [])))) 0 2 = ([o, i, 0, 0], numB w ++ (numB (b01 l) ++ []), 0) := by
        rw [tk4, s1]; dsimp only; rw [if_pos rfl, k2]; simp; omega
      have s3 : tk4 (numB o ++ (numB i ++ (numB w ++ (numB (b01 l) ++ [])))) 0 3 = ([o, i, w, 0], numB (b01 l) ++ [], 0) := by
        rw [tk4, s2]; dsimp only; rw [if_pos rfl, k3]; simp; omega
      rw [tk4, s3]; dsimp only; rw [if_pos rfl, k4]; simp; omega
    have hb : decide (b01 l = 1) = l := by cases l <;> rfl
    unfold decS
    rw [e, t1]
    dsimp only
    rw [t2]
    dsimp only
    rw [e4]
    dsimp only
    have em : mkSv n p [o, i, w, b01 l] = ⟨n, p, o, i, w, l⟩ := by simp [mkSv, hb]
    rw [if_neg (by simp), if_neg (by simp), em, h0, if_neg (by simp; omega)]
  · have a1 : (textB n).length ≤ 29 := by rw [textB, List.length_append]; have := numB_length_le (n.length : Int); omega
    have a2 : (textB p).length ≤ 29 := by rw [textB, List.length_append]; have := numB_length_le (p.length : Int); omega
    have a3 := nb16 o0 o1
    have a4 := nb16 i0 i1
    have a5 := nb16 w0 w1
    have a6 := nb16 hl0.1 (by omega)
    rw [e]
    simp only [List.length_append, List.length_nil]
    omega
/-- What is decoded has just that value. -/
theorem enc_dec {v : List UInt8} (h : (decS v).2 = 0) : svOk (decS v).1 = true ∧ encB (decS v).1 = v := by
  unfold decS at h ⊢
  by_cases h1 : (tt v 20).2.2 ≠ 0
  · rw [if_pos h1] at h; exact absurd h h1
  rw [if_neg h1] at h ⊢
  dsimp only at h ⊢
  generalize hS : tk4 (tt (tt v 20).2.1 20).2.1 (tt (tt v 20).2.1 20).2.2 4 = S at *
  by_cases h2 : S.2.2 ≠ 0
  · rw [if_pos h2] at h; exact absurd h h2
  rw [if_neg h2] at h ⊢
  by_cases h3 : 0 < S.2.1.length ∨ 1 < S.1.getD 3 0 ∨ svOk (mkSv (tt v 20).1 (tt (tt v 20).2.1 20).1 S.1) = false
  · rw [if_pos h3] at h; simp at h
  rw [if_neg h3] at h ⊢
  have hn1 : S.2.1 = [] := List.eq_nil_of_length_eq_zero (by omega)
  have hok : svOk (mkSv (tt v 20).1 (tt (tt v 20).2.1 20).1 S.1) = true := by
    cases hc : svOk (mkSv (tt v 20).1 (tt (tt v 20).2.1 20).1 S.1) with
    | true => rfl
    | false => exact absurd (.inr (.inr hc)) h3
  refine ⟨hok, ?_⟩
  have o1 := tt_once (bs := v) (most := 20) (by simpa using h1)
  generalize hr0 : (tt (tt v 20).2.1 20).2.1 = r0 at *
  generalize he0 : (tt (tt v 20).2.1 20).2.2 = e0 at *
  -- nothing is wrong at any number
  have hz : ∀ i, i ≤ 4 → (tk4 r0 e0 i).2.2 = 0 := fun i hi => by
    refine Decidable.byContradiction fun hc => ?_
    have := tk4_err r0 e0 hc (4 - i)
    rw [show i + (4 - i) = 4 by omega, hS] at this
    rw [this] at h2
    exact h2 hc
  have hstep : ∀ i, i < 4 → (tk4 r0 e0 i).2.1 = nb (tk (tk4 r0 e0 i).2.1).1 ++ (tk4 r0 e0 (i + 1)).2.1 ∧ (tk4 r0 e0 (i + 1)).1 = (tk4 r0 e0 i).1.set i ((tk (tk4 r0 e0 i).2.1).1 : Int) := fun i hi => by
    have hk := hz (i + 1) (by omega)
    rw [tk4, if_pos (hz i (by omega))] at hk ⊢
    exact ⟨tk_once hk, rfl⟩
  have he : e0 = 0 := hz 0 (by omega)
  have o2 := tt_once (bs := (tt v 20).2.1) (most := 20) (by rw [he0, he])
  obtain ⟨q0, l0⟩ := hstep 0 (by omega)
  obtain ⟨q1, l1⟩ := hstep 1 (by omega)
  obtain ⟨q2, l2⟩ := hstep 2 (by omega)
  obtain ⟨q3, l3⟩ := hstep 3 (by omega)
  have b0 : tk4 r0 e0 0 = ([0, 0, 0, 0], r0, e0) := rfl
  rw [b0] at q0 l0
  dsimp only at q0 l0
  generalize (tk r0).1 = m0 at *
  rw [l0] at l1
  generalize (tk (tk4 r0 e0 1).2.1).1 = m1 at *
  rw [l1] at l2
  generalize (tk (tk4 r0 e0 2).2.1).1 = m2 at *
  rw [l2] at l3
  generalize hm3 : (tk (tk4 r0 e0 3).2.1).1 = m3 at *
  rw [show (3 : Nat) + 1 = 4 from rfl, hS] at q3 l3
  simp only [List.set_cons_zero, List.set_cons_succ] at l3
  have hm : (m0 : Int) ≤ 65535 ∧ (m1 : Int) ≤ 65535 ∧ (m2 : Int) ≤ 65535 ∧ (m3 : Int) ≤ 1 := by
    rw [l3] at hok h3
    unfold svOk mkSv at hok
    simp only [Bool.and_eq_true, decide_eq_true_eq] at hok
    obtain ⟨_, _, _, g4, g5, g6⟩ := hok
    have := (sh16_le g4).2
    have := (sh16_le g5).2
    have := (sh16_le g6).2
    simp at *
    omega
  obtain ⟨x0, x1, x2, x3⟩ := hm
  have e01 : b01 (decide ((m3 : Int) = 1)) = (m3 : Int) := by
    unfold b01
    by_cases h : (m3 : Int) = 1
    · rw [decide_eq_true h]; simp [h]
    · rw [decide_eq_false h]; simp; omega
  rw [l3]
  unfold encB mkSv
  simp only [List.getD_cons_zero, List.getD_cons_succ]
  rw [e01]
  have en : numsB [(m0 : Int), (m1 : Int), (m2 : Int), (m3 : Int)] = nb m0 ++ (nb m1 ++ (nb m2 ++ (nb m3 ++ []))) := by
    simp only [numsB, List.flatMap_cons, List.flatMap_nil]
    rw [numB_natI m0 (by omega), numB_natI m1 (by omega), numB_natI m2 (by omega), numB_natI m3 (by omega)]
  rw [en]
  have ev : v = textB (tt v 20).1 ++ (textB (tt (tt v 20).2.1 20).1 ++ (nb m0 ++ (nb m1 ++ (nb m2 ++ (nb m3 ++ []))))) := by
    conv => lhs; rw [o1.1, o2.1, hr0, q0, q1, q2, q3, hn1]
  rw [List.append_assoc]
  exact ev.symm

end Go.Proofs.YtnlmdeeadldgmaaGreatDoor.VL

/- Layer 15: words, plain. -/
set_option linter.unusedVariables false
set_option linter.unusedSimpArgs false
namespace Go.Proofs.YtnlmdeeadldgmaaGreatDoor.VL
open Go Go.RowKit Go.Lib

theorem isPl_nat : ∀ n, n < 256 → isPl (UInt8.ofNat n) = (decide (97 ≤ n ∧ n ≤ 122) || (decide (48 ≤ n ∧ n ≤ 57) || decide (n = 45))) := by decide +kernel
theorem isPl_iff (c : UInt8) : isPl c = true ↔ (97 ≤ c.toNat ∧ c.toNat ≤ 122) ∨ (48 ≤ c.toNat ∧ c.toNat ≤ 57) ∨ c = 45 := by
  have := isPl_nat c.toNat c.toNat_lt
  rw [UInt8.ofNat_toNat] at this
  rw [this]
  simp only [Bool.or_eq_true, decide_eq_true_eq]
  have e : c.toNat = 45 ↔ c = 45 := ⟨fun h => UInt8.toNat_inj.1 (by rw [h]; rfl), fun h => by rw [h]; rfl⟩
  rw [e]
/-- Whether a letter may stand at a place of a word. -/
def okAt (s : List UInt8) (i : Nat) (c : UInt8) : Prop := (97 ≤ c.toNat ∧ c.toNat ≤ 122) ∨ (48 ≤ c.toNat ∧ c.toNat ≤ 57) ∨ (c = 45 ∧ 0 < i ∧ i + 1 < s.length)
theorem wordOk_iff (s : List UInt8) : wordOk s = true ↔ (0 < s.length ∧ s.length ≤ 20) ∧ ∀ (i : Nat) (c : UInt8), s[i]? = some c → okAt s i c := by
  unfold wordOk
  simp only [Bool.and_eq_true, decide_eq_true_eq, List.all_eq_true]
  constructor
  · rintro ⟨h0, h1, h2, h3, h4⟩
    refine ⟨⟨h0, h1⟩, fun i c hc => ?_⟩
    have hil := (List.getElem?_eq_some_iff.1 hc).1
    rcases (isPl_iff c).1 (h2 c (List.mem_of_getElem? hc)) with h | h | h
    · exact .inl h
    · exact .inr (.inl h)
    · refine .inr (.inr ⟨h, ?_, ?_⟩)
      · refine Nat.pos_of_ne_zero fun hi => ?_
        subst hi; subst h
        exact h3 hc
      · refine Nat.lt_of_le_of_ne (by omega) fun hi => ?_
        subst h
        exact h4 (by rw [show s.length - 1 = i by omega]; exact hc)
  · rintro ⟨⟨h0, h1⟩, h2⟩
    refine ⟨h0, h1, fun c hc => ?_, fun h => ?_, fun h => ?_⟩
    · obtain ⟨i, hi⟩ := List.mem_iff_getElem?.1 hc
      refine (isPl_iff c).2 ?_
      rcases h2 i c hi with h | h | h
      · exact .inl h
      · exact .inr (.inl h)
      · exact .inr (.inr h.1)
    · rcases h2 0 45 h with h | h | h
      · exact absurd h (by decide)
      · exact absurd h (by decide)
      · exact absurd h.2.1 (by omega)
    · rcases h2 _ 45 h with h | h | h
      · exact absurd h (by decide)
      · exact absurd h (by decide)
      · exact absurd h.2.2 (by omega)
/-- A text without such letters at its end. -/
def trR (f : UInt8 → Bool) (s : List UInt8) : List UInt8 := (s.reverse.dropWhile f).reverse
theorem trR_snoc (f : UInt8 → Bool) (s : List UInt8) (c : UInt8) : trR f (s ++ [c]) = if f c then trR f s else s ++ [c] := by
  unfold trR
  rw [List.reverse_append, List.reverse_singleton, List.singleton_append, List.dropWhile_cons]
  split
  · rfl
  · simp
theorem trR_length (f : UInt8 → Bool) (s : List UInt8) : (trR f s).length ≤ s.length := by
  unfold trR
  rw [List.length_reverse]
  exact Nat.le_trans (List.dropWhile_sublist f).length_le (by simp)
theorem dropWhile_nil (f : UInt8 → Bool) : ∀ s : List UInt8, s.dropWhile f = [] ↔ s.all f = true
  | [] => by simp
  | c :: s => by
    rw [List.dropWhile_cons, List.all_cons]
    cases h : f c with
    | true => rw [if_pos rfl, dropWhile_nil f s]; simp
    | false => rw [if_neg (by simp)]; simp
def trimF (f : UInt8 → Bool) (s : List UInt8) : List UInt8 := (trR f s).dropWhile f
theorem trimF_nil (f : UInt8 → Bool) (s : List UInt8) : trimF f s = [] ↔ s.all f = true := by
  unfold trimF
  rw [dropWhile_nil]
  constructor
  · intro h
    by_cases hn : trR f s = []
    · unfold trR at hn
      rw [List.reverse_eq_nil_iff, dropWhile_nil, List.all_reverse] at hn
      exact hn
    · -- its last letter is none of them
      exfalso
      have hne : s.reverse.dropWhile f ≠ [] := fun h0 => hn (by unfold trR; rw [h0]; rfl)
      obtain ⟨c, l, hl⟩ := List.exists_cons_of_ne_nil hne
      have hc : f c = false := by
        have := List.head_dropWhile_not f hne
        simp only [hl, List.head_cons] at this
        simpa using this
      have hm : c ∈ trR f s := by unfold trR; rw [hl]; simp
      rw [List.all_eq_true.1 h c hm] at hc
      cases hc
  · intro h
    have : trR f s = [] := by
      unfold trR
      rw [List.reverse_eq_nil_iff, dropWhile_nil, List.all_reverse]
      exact h
    rw [this]
    rfl

end Go.Proofs.YtnlmdeeadldgmaaGreatDoor.VL

/- Layer 15: a text without letters of a set at its ends. -/
-- STEPWISE
-- WK
set_option linter.unusedVariables false
set_option linter.unusedSimpArgs false
set_option maxRecDepth 10000
namespace Go.Proofs.YtnlmdeeadldgmaaGreatDoor.VL
open Go Go.RowKit Go.Lib

/-- A set of letters, as cells. -/
def asC (p : Nat → Bool) : List AV := (List.range 256).map fun j => vb (p j)
@[go_sem] theorem asC_length (p : Nat → Bool) : (asC p).length = 256 := by simp [asC]
@[go_sem] theorem asC_get (p : Nat → Bool) (j : Nat) (h : j < 256) : (asC p)[j]? = some (vb (p j)) := by simp [asC, h]
def setP (p : Nat → Bool) (j : Nat) : Nat → Bool := fun i => p i || decide (i = j)
@[go_sem] theorem asC_set (p : Nat → Bool) (j : Nat) : (asC p).set j (.v (.bool true)) = asC (setP p j) := by
  apply List.ext_getElem?
  intro i
  by_cases hi : i < 256
  · rw [asC_get _ _ hi]
    by_cases h : j = i
    · subst h
      rw [List.getElem?_set_self (by simpa [asC] using hi)]
      simp [setP]
    · rw [List.getElem?_set_ne h, asC_get _ _ hi]
      simp [setP, Ne.symm h]
  · rw [List.getElem?_eq_none (by simpa [asC] using Nat.le_of_not_lt hi), List.getElem?_eq_none (by simpa [asC] using Nat.le_of_not_lt hi)]
@[go_sem] theorem asC_take (p : Nat → Bool) : (asC p).take 256 = asC p := List.take_of_length_le (by rw [asC_length]; exact Nat.le_refl _)
@[go_sem] theorem asC_all (p : Nat → Bool) : (asC p).all AV.one = true := by
  rw [asC, List.all_map, List.all_eq_true]
  intro x _
  rfl
@[go_sem] theorem splice_asC (p q : Nat → Bool) : splice (asC p) 0 (asC q) = asC q := by
  apply List.ext_getElem?
  intro j
  rw [splice_get _ _ _ _ (by rw [asC_length, asC_length]; decide)]
  by_cases h : j < 256
  · rw [if_pos (by rw [asC_length]; omega), Nat.sub_zero]
  · rw [if_neg (by rw [asC_length]; omega), List.getElem?_eq_none (by rw [asC_length]; omega), List.getElem?_eq_none (by rw [asC_length]; omega)]
@[go_sem] theorem zeAs : zeroCs Tryz.prog 212 = some (asC fun _ => false) := by kernel_rfl
attribute [go_sem] Bool.false_and
def inP (cut : List UInt8) : Nat → Bool := fun j => cut.any fun c => decide (c.toNat = j)
theorem inP_step {cut : List UInt8} {i : Nat} {c : UInt8} (h : cut[i]? = some c) : setP (inP (cut.take i)) c.toNat = inP (cut.take (i + 1)) := by
  funext j
  rw [List.take_add_one, h]
  simp only [setP, inP, List.any_append, Option.toList_some, List.any_cons, List.any_nil, Bool.or_false]
  congr 1
  exact decide_eq_decide.2 ⟨Eq.symm, Eq.symm⟩
theorem lt_asC {n : Nat} (p : Nat → Bool) : Lt n (.agg (asC p)) := .agg _ fun i c hi => by
  simp only [asC, List.getElem?_map] at hi
  obtain ⟨b, _, rfl⟩ := Option.map_eq_some_iff.1 hi
  exact .v _

set_option maxHeartbeats 1000000 in
theorem asSet_spec (cut : List UInt8) (hl : cut.length ≤ 1000) (h7 : ∀ c ∈ cut, c.toNat < 128) (H : List Box) : ASpec Tryz.prog 181 [vs cut] H (Gives (.tup [.agg (asC (inP cut)), vb true]) H) := by
  refine ASpec.enter Tryz.func181 rfl (fun a w => Tryz.call181 a w) Tryz.ntmps181 Tryz.results181 fun base w β hI => ?_
  refine wk wT (wA DrM.mk wT) ?_
  refine AWP.loop (ι := {i : Nat // i ≤ cut.length}) (fun p => ⟨[(0, vs cut), (2, .ptr H.length 0 0), (4, vi p.1)], H ++ [⟨asC (inP (cut.take p.1)), 0, 0, false⟩]⟩) (fun p => cut.length - p.1) ⟨0, Nat.zero_le _⟩ ?_ ?_
  · dsimp only
    have e0 : inP (cut.take 0) = fun _ => false := by funext j; rfl
    rw [e0]
    exact Coe.kp
  · rintro ⟨i, hi⟩
    dsimp only
    by_cases hc : (i : Int) < (cut.length : Int)
    · have hg : cut[i]? = some cut[i] := List.getElem?_eq_getElem (by omega)
      have h8 := h7 cut[i] (List.getElem_mem _)
      generalize cut[i] = c at hg h8
      have hst := inP_step hg
      have hn : ¬ (128 : Int) ≤ (c.toNat : Int) := by omega
      refine wk (wA hc (wA hg (wA hn (wA hst wT)))) (wA DrM.mk wT) ?_
      refine ⟨⟨i + 1, by omega⟩, ?_, by dsimp only; omega⟩
      dsimp only
      exact Coe.kp
    · have hi2 : i = cut.length := by omega
      subst hi2
      rw [List.take_length]
      refine wk (wA hc wT) (wA DrM.mk wT) ?_
      refine wkEnd wT ?_
      exact Fin.cut (.tup _ fun i c hi => by rcases i with _ | _ | i <;> simp at hi <;> subst hi <;> first | exact lt_asC _ | exact .v _) ⟨rfl, rfl⟩

set_option maxHeartbeats 1000000 in
theorem asHas_spec (p : Nat → Bool) (c : UInt8) (H : List Box) : ASpec Tryz.prog 186 [.ptr H.length 0 0, .v (.int .u8 c.toNat)] (H ++ [⟨asC p, 0, 0, false⟩]) (Gives (vb (p c.toNat)) (H ++ [⟨asC p, 0, 0, false⟩])) := by
  have h256 : c.toNat < 256 := c.toNat_lt
  refine ASpec.enter Tryz.func186 rfl (fun a w => Tryz.call186 a w) Tryz.ntmps186 Tryz.results186 fun base w β hI => ?_
  refine wk wT (wA DrM.mk wT) ?_
  refine wkEnd wT ?_
  exact Fin.same ⟨rfl, rfl⟩

set_option maxHeartbeats 1000000 in
theorem trimL_spec (p : Nat → Bool) (s : List UInt8) (hs : s.length ≤ 9223372036854775807) (H : List Box) : ASpec Tryz.prog 182 [vs s, .ptr H.length 0 0] (H ++ [⟨asC p, 0, 0, false⟩]) (Gives (vs (s.dropWhile fun c => p c.toNat)) (H ++ [⟨asC p, 0, 0, false⟩])) := by
  have h1 := fun c => asHas_spec p c H
  refine ASpec.enter Tryz.func182 rfl (fun a w => Tryz.call182 a w) Tryz.ntmps182 Tryz.results182 fun base w β hI => ?_
  refine wk wT (wA DrM.mk wT) ?_
  refine AWP.loop (ι := {u : List UInt8 // u.length ≤ s.length ∧ s.dropWhile (fun c => p c.toNat) = u.dropWhile fun c => p c.toNat}) (fun u => ⟨[(0, vs u.1), (1, .ptr H.length 0 0)], H ++ [⟨asC p, 0, 0, false⟩]⟩) (fun u => u.1.length) ⟨s, Nat.le_refl _, rfl⟩ ?_ ?_
  · dsimp only
    exact Coe.kp
  · rintro ⟨u, hu, he⟩
    dsimp only
    cases u with
    | nil =>
      rw [he]
      refine wk wT (wA DrM.mk wT) ?_
      refine wkEnd wT ?_
      exact Fin.same ⟨rfl, rfl⟩
    | cons c r =>
      rw [List.length_cons] at hu
      rw [List.dropWhile_cons] at he
      have hpos : (0 : Int) < ((r.length + 1 : Nat) : Int) := by omega
      by_cases hp : p c.toNat = true
      · rw [if_pos hp] at he
        refine wk (wA hpos (wA hp wT)) (wA h1 (wA DrM.mk wT)) ?_
        refine ⟨⟨r, by omega, he⟩, ?_, by dsimp only; rw [List.length_cons]; omega⟩
        dsimp only
        exact Coe.kp
      · rw [if_neg hp] at he
        rw [he]
        refine wk (wA hpos (wA hp wT)) (wA h1 (wA DrM.mk wT)) ?_
        refine wkEnd wT ?_
        exact Fin.same ⟨rfl, rfl⟩

set_option maxHeartbeats 1000000 in
theorem trimR_spec (p : Nat → Bool) (s : List UInt8) (hs : s.length ≤ 9223372036854775807) (H : List Box) : ASpec Tryz.prog 183 [vs s, .ptr H.length 0 0] (H ++ [⟨asC p, 0, 0, false⟩]) (Gives (vs (trR (fun c => p c.toNat) s)) (H ++ [⟨asC p, 0, 0, false⟩])) := by
  have h1 := fun c => asHas_spec p c H
  refine ASpec.enter Tryz.func183 rfl (fun a w => Tryz.call183 a w) Tryz.ntmps183 Tryz.results183 fun base w β hI => ?_
  refine wk wT (wA DrM.mk wT) ?_
  refine AWP.loop (ι := {u : List UInt8 // u.length ≤ s.length ∧ trR (fun c => p c.toNat) s = trR (fun c => p c.toNat) u}) (fun u => ⟨[(0, vs u.1), (1, .ptr H.length 0 0)], H ++ [⟨asC p, 0, 0, false⟩]⟩) (fun u => u.1.length) ⟨s, Nat.le_refl _, rfl⟩ ?_ ?_
  · dsimp only
    exact Coe.kp
  · rintro ⟨u, hu, he⟩
    dsimp only
    by_cases hn : u = []
    · subst hn
      rw [he]
      refine wk wT (wA DrM.mk wT) ?_
      refine wkEnd wT ?_
      exact Fin.same ⟨rfl, rfl⟩
    · obtain ⟨r, c, rfl⟩ : ∃ r c, u = r ++ [c] := ⟨u.dropLast, u.getLast hn, (List.dropLast_concat_getLast hn).symm⟩
      rw [trR_snoc] at he
      have hul : (r ++ [c]).length = r.length + 1 := by simp
      have hg : (r ++ [c])[r.length]? = some c := by simp
      have ht : (r ++ [c]).take r.length = r := by simp
      generalize hv : r ++ [c] = v at hul hg ht hu
      have hpos : (0 : Int) < (v.length : Int) := by omega
      have hn1 : ((v.length : Int) - 1).toNat = r.length := by omega
      by_cases hp : p c.toNat = true
      · rw [if_pos hp] at he
        refine wk (wA hpos (wA hp (wA hn1 (wA hg (wA ht wT))))) (wA h1 (wA DrM.mk wT)) ?_
        refine ⟨⟨r, by omega, he⟩, ?_, by dsimp only; omega⟩
        dsimp only
        exact Coe.kp
      · rw [if_neg hp] at he
        rw [he, hv]
        refine wk (wA hpos (wA hp (wA hn1 (wA hg wT)))) (wA h1 (wA DrM.mk wT)) ?_
        refine wkEnd wT ?_
        exact Fin.same ⟨rfl, rfl⟩

theorem inP_plain : (fun c : UInt8 => inP plainB c.toNat) = isPl := by
  funext c
  simp only [inP, isPl]
  rw [List.contains_eq_any_beq]
  congr 1
  funext d
  by_cases h : c = d
  · subst h; simp
  · have : ¬ d.toNat = c.toNat := fun e => h (UInt8.toNat_inj.1 e).symm
    simp [this, h]

set_option maxHeartbeats 1000000 in
theorem trim_spec (s : List UInt8) (hs : s.length ≤ 9223372036854775807) (H : List Box) : ASpec Tryz.prog 177 [vs s, vs plainB] H (Gives (vs (trimF isPl s)) H) := by
  have h1 := fun H => asSet_spec plainB (by decide) (by decide) H
  have hr : (trR isPl s).length ≤ s.length := trR_length _ _
  have h2 := fun H => trimR_spec (inP plainB) s hs H
  rw [inP_plain] at h2
  have h3 := fun H => trimL_spec (inP plainB) (trR isPl s) (by omega) H
  rw [inP_plain] at h3
  unfold trimF
  have hL : plainB.length = 37 := by decide
  have hne : ¬ plainB = [] := by decide
  by_cases h0 : s = []
  · subst h0
    refine ASpec.enter Tryz.func177 rfl (fun a w => Tryz.call177 a w) Tryz.ntmps177 Tryz.results177 fun base w β hI => ?_
    refine wk wT (wA DrM.mk wT) ?_
    refine wkEnd wT ?_
    exact Fin.same ⟨rfl, rfl⟩
  · generalize plainB = cut at *
    refine ASpec.enter Tryz.func177 rfl (fun a w => Tryz.call177 a w) Tryz.ntmps177 Tryz.results177 fun base w β hI => ?_
    refine wk (wA h0 (wA hne (wA hL wT))) (wA h1 (wA h2 (wA h3 (wA DrM.mk wT)))) ?_
    refine wkEnd wT ?_
    exact Fin.cut (.v _) ⟨rfl, rfl⟩

end Go.Proofs.YtnlmdeeadldgmaaGreatDoor.VL

/- The library's search in a row: []int. -/
-- STEPWISE
-- WK
set_option linter.unusedVariables false
set_option linter.unusedSimpArgs false
set_option maxRecDepth 10000
namespace Go.Proofs.YtnlmdeeadldgmaaGreatDoor.VL
open Go Go.RowKit Go.Lib

set_option maxHeartbeats 1000000 in
theorem ixFInt_spec (f : Int → Bool) (fid : FuncId) (caps : List AV) (l : List Int) (hl : l.length ≤ 9223372036854775807) (H : List Box) (hf : ∀ x, x ∈ l → ASpec Tryz.prog fid (vi x :: caps) H (Gives (vb (f x)) H)) :
    ASpec Tryz.prog 178 [.lst 1 (intsG l), .fn fid caps] H (Gives (vi (ixOf f l 0)) H) := by
  refine ASpec.enter Tryz.func178 rfl (fun a w => Tryz.call178 a w) Tryz.ntmps178 Tryz.results178 fun base w β hI => ?_
  refine wk wT (wA DrM.mk wT) ?_
  refine AWP.loop (ι := {i : Nat // i ≤ l.length ∧ ixOf f l 0 = ixOf f (l.drop i) i}) (fun p => ⟨[(0, .lst 1 (intsG l)), (1, .fn fid caps), (7, vi l.length), (8, vi p.1)], H⟩) (fun p => l.length - p.1) ⟨0, Nat.zero_le _, by rw [List.drop_zero]⟩ ?_ ?_
  · dsimp only
    exact Coe.kp
  · rintro ⟨i, hi, he⟩
    dsimp only
    by_cases hc : (i : Int) < (l.length : Int)
    · have hg : l[i]? = some l[i] := List.getElem?_eq_getElem (by omega)
      have hs := hf l[i] (List.getElem_mem _)
      generalize l[i] = x at hg hs
      rw [ixOf_drop _ hg] at he
      by_cases hx : f x = true
      · rw [if_pos hx] at he
        rw [hx] at hs
        rw [he]
        refine wk (wA hc (wA hg wT)) (wA hs (wA DrM.mk wT)) ?_
        refine wkEnd wT ?_
        exact Fin.same ⟨rfl, rfl⟩
      · rw [if_neg hx] at he
        rw [Bool.not_eq_true _ |>.mp hx] at hs
        refine wk (wA hc (wA hg wT)) (wA hs (wA DrM.mk wT)) ?_
        refine ⟨⟨i + 1, by omega, he⟩, ?_, by dsimp only; omega⟩
        dsimp only
        exact Coe.kp
    · rw [List.drop_of_length_le (by omega)] at he
      rw [he]
      refine wk (wA hc wT) (wA DrM.mk wT) ?_
      refine wkEnd wT ?_
      exact Fin.same ⟨rfl, rfl⟩
theorem coFInt_spec (f : Int → Bool) (fid : FuncId) (caps : List AV) (l : List Int) (hl : l.length ≤ 9223372036854775807) (H : List Box) (hf : ∀ x, x ∈ l → ASpec Tryz.prog fid (vi x :: caps) H (Gives (vb (f x)) H)) :
    ASpec Tryz.prog 176 [.lst 1 (intsG l), .fn fid caps] H (Gives (vb (l.any f)) H) := by
  have hs := ixFInt_spec f fid caps l hl H hf
  have ha := ixOf_any f l 0
  clear hf
  generalize ixOf f l 0 = x at hs ha
  rw [← ha]
  refine ASpec.enter Tryz.func176 rfl (fun a w => Tryz.call176 a w) Tryz.ntmps176 Tryz.results176 fun base w β hI => ?_
  refine wk wT (wA hs (wA DrM.mk wT)) ?_
  refine wkEnd wT ?_
  exact Fin.same ⟨rfl, rfl⟩

end Go.Proofs.YtnlmdeeadldgmaaGreatDoor.VL

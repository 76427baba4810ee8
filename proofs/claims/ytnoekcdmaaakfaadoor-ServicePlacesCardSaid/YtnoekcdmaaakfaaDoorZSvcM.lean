/- Layer 15: services, as plain values; their laws. -/
import Derived.Test.YtnoekcdmaaakfaaDoorZTakeM
import Derived.Test.YtnoekcdmaaakfaaDoorZQuillS
set_option linter.unusedVariables false
set_option linter.unusedSimpArgs false
set_option maxRecDepth 10000
namespace Go.Proofs.YtnoekcdmaaakfaaDoor.VL
open Go Go.RowKit Go.Lib

structure Sv where
  n : List UInt8
  p : List UInt8
  o : Int
  i : Int
  w : Int
  l : Bool
deriving DecidableEq
abbrev svC (s : Sv) : List AV := [vs s.n, vs s.p, vi s.o, vi s.i, vi s.w, vb s.l]
def svZ : Sv := ⟨[], [], 0, 0, 0, false⟩
abbrev svG (l : List Sv) : List (List AV) := l.map svC
@[go_sem] theorem svG_length (l : List Sv) : (svG l).length = l.length := by simp [svG]
@[go_sem] theorem svG_get (l : List Sv) (i : Nat) : (svG l)[i]? = (l[i]?).map svC := by simp [svG]
theorem lt_sv {n : Nat} (l : List Sv) : Lt n (.lst 6 (svG l)) := .lst _ _ fun i j g c hi hj => by
  simp only [svG, List.getElem?_map] at hi
  obtain ⟨b, _, rfl⟩ := Option.map_eq_some_iff.1 hi
  rcases j with _ | _ | _ | _ | _ | _ | j <;> simp at hj <;> subst hj <;> exact .v _

/-- The letters of words. -/
def plainB : List UInt8 := [97, 98, 99, 100, 101, 102, 103, 104, 105, 106, 107, 108, 109, 110, 111, 112, 113, 114, 115, 116, 117, 118, 119, 120, 121, 122, 48, 49, 50, 51, 52, 53, 54, 55, 56, 57, 45]
def isPl (c : UInt8) : Bool := plainB.contains c
/-- Whether a text is a word. -/
def wordOk (s : List UInt8) : Bool := decide (0 < s.length) && (decide (s.length ≤ 20) && (s.all isPl && (decide (s[0]? ≠ some 45) && decide (s[s.length - 1]? ≠ some 45))))
def sh16 (n : Int) : Bool := decide (0 ≤ n) && decide (n ≤ 65535)
def svOk (s : Sv) : Bool := wordOk s.n && (wordOk s.p && (decide (1 ≤ s.o) && (sh16 s.o && (sh16 s.i && sh16 s.w))))
def b01 (b : Bool) : Int := if b then 1 else 0
def encB (s : Sv) : List UInt8 := textB s.n ++ textB s.p ++ numsB [s.o, s.i, s.w, b01 s.l]
def encS (s : Sv) : List UInt8 × Int := if svOk s then (encB s, 0) else ([], 1)

/-- Four numbers, as long as nothing is wrong. -/
def tk4 (r : List UInt8) (e : Int) : Nat → List Int × List UInt8 × Int
  | 0 => ([0, 0, 0, 0], r, e)
  | i + 1 => if (tk4 r e i).2.2 = 0 then ((tk4 r e i).1.set i ((tk (tk4 r e i).2.1).1 : Int), (tk (tk4 r e i).2.1).2.1, (tk (tk4 r e i).2.1).2.2) else tk4 r e i
def mkSv (n p : List UInt8) (l : List Int) : Sv := ⟨n, p, l.getD 0 0, l.getD 1 0, l.getD 2 0, decide (l.getD 3 0 = 1)⟩
/-- A value's service. -/
def decS (v : List UInt8) : Sv × Int :=
  if (tt v 20).2.2 ≠ 0 then (svZ, (tt v 20).2.2) else
  let s4 := tk4 (tt (tt v 20).2.1 20).2.1 (tt (tt v 20).2.1 20).2.2 4
  let s := mkSv (tt v 20).1 (tt (tt v 20).2.1 20).1 s4.1
  if s4.2.2 ≠ 0 then (svZ, s4.2.2) else if 0 < s4.2.1.length ∨ 1 < s4.1.getD 3 0 ∨ svOk s = false then (svZ, 3) else (s, 0)

theorem tk4_len (r : List UInt8) (e : Int) : ∀ i, (tk4 r e i).1.length = 4
  | 0 => rfl
  | i + 1 => by
    rw [tk4]
    split
    · rw [List.length_set]; exact tk4_len r e i
    · exact tk4_len r e i
theorem tk4_err (r : List UInt8) (e : Int) {i : Nat} (h : (tk4 r e i).2.2 ≠ 0) : ∀ k, tk4 r e (i + k) = tk4 r e i
  | 0 => rfl
  | k + 1 => by
    have ih := tk4_err r e h k
    rw [show i + (k + 1) = (i + k) + 1 from rfl, tk4, ih, if_neg h]
theorem tk_facts (bs : List UInt8) : (tk bs).2.1.length ≤ bs.length ∧ (tk bs).1 ≤ 4611686018427387904 ∧ 0 ≤ (tk bs).2.2 ∧ (tk bs).2.2 ≤ 3 := tkGo_facts 9 0 0 bs
theorem tk4_rest (r : List UInt8) (e : Int) : ∀ i, (tk4 r e i).2.1.length ≤ r.length
  | 0 => Nat.le_refl _
  | i + 1 => by
    rw [tk4]
    have := tk4_rest r e i
    have := (tk_facts (tk4 r e i).2.1).1
    split
    · dsimp only; omega
    · assumption

theorem wordOk_len {s : List UInt8} (h : wordOk s = true) : 0 < s.length ∧ s.length ≤ 20 := by
  unfold wordOk at h
  simp only [Bool.and_eq_true, decide_eq_true_eq] at h
  exact ⟨h.1, h.2.1⟩
theorem sh16_le {n : Int} (h : sh16 n = true) : 0 ≤ n ∧ n ≤ 65535 := by
  unfold sh16 at h; simpa using h
theorem nb16 {n : Int} (h0 : 0 ≤ n) (h1 : n ≤ 65535) : (numB n).length ≤ 3 := by
  rw [numB_ok (by simp [okNum]; omega)]
  exact nb_length_le 3 _ (by have : (128 : Nat) ^ 3 = 2097152 := by decide
                             omega) (by decide)
/-- What is encoded is decoded as it was. -/
theorem dec_enc {s : Sv} (h : svOk s = true) : decS (encB s) = (s, 0) ∧ (encB s).length ≤ 200 := by
  obtain ⟨n, p, o, i, w, l⟩ := s
  have h0 := h
  unfold svOk at h
  simp only [Bool.and_eq_true, decide_eq_true_eq] at h
  obtain ⟨h1, h2, h3, h4, h5, h6⟩ := h
  obtain ⟨n0, n1⟩ := wordOk_len h1
  obtain ⟨p0, p1⟩ := wordOk_len h2
  obtain ⟨o0, o1⟩ := sh16_le h4
  obtain ⟨i0, i1⟩ := sh16_le h5
  obtain ⟨w0, w1⟩ := sh16_le h6
  have hl0 : 0 ≤ b01 l ∧ b01 l ≤ 1 := by unfold b01; split <;> omega
  have e : encB ⟨n, p, o, i, w, l⟩ = textB n ++ (textB p ++ (numB o ++ (numB i ++ (numB w ++ (numB (b01 l) ++ []))))) := by simp [encB, numsB]
  refine ⟨?_, ?_⟩
  · have t1 := tt_textB n (textB p ++ (numB o ++ (numB i ++ (numB w ++ (numB (b01 l) ++ []))))) 20 (by omega) (by omega)
    have t2 := tt_textB p (numB o ++ (numB i ++ (numB w ++ (numB (b01 l) ++ [])))) 20 (by omega) (by omega)
    have k1 := tk_numB o (numB i ++ (numB w ++ (numB (b01 l) ++ []))) o0 (by omega)
    have k2 := tk_numB i (numB w ++ (numB (b01 l) ++ [])) i0 (by omega)
    have k3 := tk_numB w (numB (b01 l) ++ []) w0 (by omega)
    have k4 := tk_numB (b01 l) [] hl0.1 (by omega)
    have e4 : tk4 (numB o ++ (numB i ++ (numB w ++ (numB (b01 l) ++ [])))) 0 4 = ([o, i, w, b01 l], [], 0) := by
      have s1 : tk4 (numB o ++ (numB i ++ (numB w ++ (numB (b01 l) ++ [])))) 0 1 = ([o, 0, 0, 0], numB i ++ (numB w ++ (numB (b01 l) ++ [])), 0) := by
        rw [tk4, tk4]; dsimp only; rw [if_pos rfl, k1]; simp; omega
      have s2 : tk4 (numB o ++ (numB i ++ (numB w ++ (numB (b01 l) ++ [])))) 0 2 = ([o, i, 0, 0], numB w ++ (numB (b01 l) ++ []), 0) := by
        rw [tk4, s1]; dsimp only; rw [if_pos rfl, k2]; simp; omega
      have s3 : tk4 (numB o ++ (numB i ++ (numB w ++ (numB (b01 l) ++ [])))) 0 3 = ([o, i, w, 0], numB (b01 l) ++ [], 0) := by
        rw [tk4, s2]; dsimp only; rw [if_pos rfl, k3]; simp; omega
      rw [tk4, s3]; dsimp only; rw [if_pos rfl, k4]; simp; omega
    have hb : decide (b01 l = 1) = l := by cases l <;> rfl
    unfold decS
    rw [e, t1]
    dsimp only
    rw [t2]
    dsimp only
    rw [e4]
    dsimp only
    have em : mkSv n p [o, i, w, b01 l] = ⟨n, p, o, i, w, l⟩ := by simp [mkSv, hb]
    rw [if_neg (by simp), if_neg (by simp), em, h0, if_neg (by simp; omega)]
  · have a1 : (textB n).length ≤ 29 := by rw [textB, List.length_append]; have := numB_length_le (n.length : Int); omega
    have a2 : (textB p).length ≤ 29 := by rw [textB, List.length_append]; have := numB_length_le (p.length : Int); omega
    have a3 := nb16 o0 o1
    have a4 := nb16 i0 i1
    have a5 := nb16 w0 w1
    have a6 := nb16 hl0.1 (by omega)
    rw [e]
    simp only [List.length_append, List.length_nil]
    omega
/-- What is decoded has just that value. -/
theorem enc_dec {v : List UInt8} (h : (decS v).2 = 0) : svOk (decS v).1 = true ∧ encB (decS v).1 = v := by
  unfold decS at h ⊢
  by_cases h1 : (tt v 20).2.2 ≠ 0
  · rw [if_pos h1] at h; exact absurd h h1
  rw [if_neg h1] at h ⊢
  dsimp only at h ⊢
  generalize hS : tk4 (tt (tt v 20).2.1 20).2.1 (tt (tt v 20).2.1 20).2.2 4 = S at *
  by_cases h2 : S.2.2 ≠ 0
  · rw [if_pos h2] at h; exact absurd h h2
  rw [if_neg h2] at h ⊢
  by_cases h3 : 0 < S.2.1.length ∨ 1 < S.1.getD 3 0 ∨ svOk (mkSv (tt v 20).1 (tt (tt v 20).2.1 20).1 S.1) = false
  · rw [if_pos h3] at h; simp at h
  rw [if_neg h3] at h ⊢
  have hn1 : S.2.1 = [] := List.eq_nil_of_length_eq_zero (by omega)
  have hok : svOk (mkSv (tt v 20).1 (tt (tt v 20).2.1 20).1 S.1) = true := by
    cases hc : svOk (mkSv (tt v 20).1 (tt (tt v 20).2.1 20).1 S.1) with
    | true => rfl
    | false => exact absurd (.inr (.inr hc)) h3
  refine ⟨hok, ?_⟩
  have o1 := tt_once (bs := v) (most := 20) (by simpa using h1)
  generalize hr0 : (tt (tt v 20).2.1 20).2.1 = r0 at *
  generalize he0 : (tt (tt v 20).2.1 20).2.2 = e0 at *
  -- nothing is wrong at any number
  have hz : ∀ i, i ≤ 4 → (tk4 r0 e0 i).2.2 = 0 := fun i hi => by
    refine Decidable.byContradiction fun hc => ?_
    have := tk4_err r0 e0 hc (4 - i)
    rw [show i + (4 - i) = 4 by omega, hS] at this
    rw [this] at h2
    exact h2 hc
  have hstep : ∀ i, i < 4 → (tk4 r0 e0 i).2.1 = nb (tk (tk4 r0 e0 i).2.1).1 ++ (tk4 r0 e0 (i + 1)).2.1 ∧ (tk4 r0 e0 (i + 1)).1 = (tk4 r0 e0 i).1.set i ((tk (tk4 r0 e0 i).2.1).1 : Int) := fun i hi => by
    have hk := hz (i + 1) (by omega)
    rw [tk4, if_pos (hz i (by omega))] at hk ⊢
    exact ⟨tk_once hk, rfl⟩
  have he : e0 = 0 := hz 0 (by omega)
  have o2 := tt_once (bs := (tt v 20).2.1) (most := 20) (by rw [he0, he])
  obtain ⟨q0, l0⟩ := hstep 0 (by omega)
  obtain ⟨q1, l1⟩ := hstep 1 (by omega)
  obtain ⟨q2, l2⟩ := hstep 2 (by omega)
  obtain ⟨q3, l3⟩ := hstep 3 (by omega)
  have b0 : tk4 r0 e0 0 = ([0, 0, 0, 0], r0, e0) := rfl
  rw [b0] at q0 l0
  dsimp only at q0 l0
  generalize (tk r0).1 = m0 at *
  rw [l0] at l1
  generalize (tk (tk4 r0 e0 1).2.1).1 = m1 at *
  rw [l1] at l2
  generalize (tk (tk4 r0 e0 2).2.1).1 = m2 at *
  rw [l2] at l3
  generalize hm3 : (tk (tk4 r0 e0 3).2.1).1 = m3 at *
  rw [show (3 : Nat) + 1 = 4 from rfl, hS] at q3 l3
  simp only [List.set_cons_zero, List.set_cons_succ] at l3
  have hm : (m0 : Int) ≤ 65535 ∧ (m1 : Int) ≤ 65535 ∧ (m2 : Int) ≤ 65535 ∧ (m3 : Int) ≤ 1 := by
    rw [l3] at hok h3
    unfold svOk mkSv at hok
    simp only [Bool.and_eq_true, decide_eq_true_eq] at hok
    obtain ⟨_, _, _, g4, g5, g6⟩ := hok
    have := (sh16_le g4).2
    have := (sh16_le g5).2
    have := (sh16_le g6).2
    simp at *
    omega
  obtain ⟨x0, x1, x2, x3⟩ := hm
  have e01 : b01 (decide ((m3 : Int) = 1)) = (m3 : Int) := by
    unfold b01
    by_cases h : (m3 : Int) = 1
    · rw [decide_eq_true h]; simp [h]
    · rw [decide_eq_false h]; simp; omega
  rw [l3]
  unfold encB mkSv
  simp only [List.getD_cons_zero, List.getD_cons_succ]
  rw [e01]
  have en : numsB [(m0 : Int), (m1 : Int), (m2 : Int), (m3 : Int)] = nb m0 ++ (nb m1 ++ (nb m2 ++ (nb m3 ++ []))) := by
    simp only [numsB, List.flatMap_cons, List.flatMap_nil]
    rw [numB_natI m0 (by omega), numB_natI m1 (by omega), numB_natI m2 (by omega), numB_natI m3 (by omega)]
  rw [en]
  have ev : v = textB (tt v 20).1 ++ (textB (tt (tt v 20).2.1 20).1 ++ (nb m0 ++ (nb m1 ++ (nb m2 ++ (nb m3 ++ []))))) := by
    conv => lhs; rw [o1.1, o2.1, hr0, q0, q1, q2, q3, hn1]
  rw [List.append_assoc]
  exact ev.symm

end Go.Proofs.YtnoekcdmaaakfaaDoor.VL

/- Layer 3: the laws of decoding, encoding, and there and back. -/
import Derived.Test.YtjkdahpoalnjjaaDoorZFrameC
-- STEPWISE
set_option linter.unusedVariables false
set_option linter.unusedSimpArgs false
set_option maxRecDepth 10000
namespace Go.Proofs.YtjkdahpoalnjjaaDoor.VL
open Go Go.RowKit Go.Lib

abbrev frDW (k : Int) (c : List UInt8) (n : Int) (p : List UInt8) (e : Int) : AV := .tup [.agg [vi k, vs c, vi n, vB p], vi e]

theorem frGreat_false {f : Fr} (h : frGreat f = false) : f.c.length ≤ 300 ∧ f.p.length ≤ 3000 := by
  simp [frGreat] at h
  omega

end Go.Proofs.YtjkdahpoalnjjaaDoor.VL

/- Layer 3: the law of there and back. -/
-- STEPWISE
set_option linter.unusedVariables false
set_option linter.unusedSimpArgs false
set_option maxRecDepth 10000
namespace Go.Proofs.YtjkdahpoalnjjaaDoor.VL
open Go Go.RowKit Go.Lib

theorem encode_ok (f : Fr) (h : frRight f = true) (H : List Box) : ASpec Tryd.prog 37 [.agg [vi f.k, vs f.c, vi f.n, vB f.p]] H (Gives (.tup [vB (frB f), vi 0]) H) := by
  have hr := frRight_spec h
  have := encode_spec f (by omega) (by omega) H
  unfold encV at this
  rw [if_pos h] at this
  exact this
theorem decode_frB (f : Fr) (h : frRight f = true) (H : List Box) : ASpec Tryd.prog 32 [vB (frB f), vs f.c] H (Gives (frDW f.k f.c f.n f.p 0) H) := by
  have := decode_spec (frB f) f.c (by have := frB_length f h; omega) H
  rw [frD_frB h, if_pos rfl] at this
  exact this
theorem decode_frB' (f : Fr) (h : frRight f = true) (cl : List UInt8) (hc : ¬ f.c = cl) (H : List Box) : ASpec Tryd.prog 32 [vB (frB f), vs cl] H (Gives (frDW 0 [] 0 [] 6) H) := by
  have := decode_spec (frB f) cl (by have := frB_length f h; omega) H
  rw [frD_frB h, if_neg hc] at this
  exact this

end Go.Proofs.YtjkdahpoalnjjaaDoor.VL

/- Layer 3: the law of turned bits. -/
-- STEPWISE
set_option linter.unusedVariables false
set_option linter.unusedSimpArgs false
set_option maxRecDepth 10000
namespace Go.Proofs.YtjkdahpoalnjjaaDoor.VL
open Go Go.RowKit Go.Lib

theorem mul_xor (p a b : Nat) : 2 ^ p * (a ^^^ b) = (2 ^ p * a) ^^^ (2 ^ p * b) := by
  have := Nat.shiftLeft_xor_distrib (a := a) (b := b) (i := p)
  rw [Nat.shiftLeft_eq, Nat.shiftLeft_eq, Nat.shiftLeft_eq] at this
  rw [Nat.mul_comm, this, Nat.mul_comm a, Nat.mul_comm b]
/-- A bit of a row of bytes is turned. -/
theorem leN_flip : ∀ (i : Nat) (t : List UInt8) (c : UInt8) (j : Nat), t[i]? = some c → j < 8 → leN (t.set i (UInt8.ofNat (c.toNat ^^^ 2 ^ j))) = leN t ^^^ 2 ^ (8 * i + j) := by
  intro i
  induction i with
  | zero =>
    intro t c j ht hj
    cases t with
    | nil => simp at ht
    | cons b r =>
      simp at ht
      subst ht
      have h1 : b.toNat ^^^ 2 ^ j < 256 := by
        have e : (2 : Nat) ^ 8 = 256 := by decide
        rw [← e]
        exact Nat.xor_lt_two_pow (by rw [e]; exact b.toNat_lt) (Nat.pow_lt_pow_right (by decide) hj)
      have h2 : (UInt8.ofNat (b.toNat ^^^ 2 ^ j)).toNat = b.toNat ^^^ 2 ^ j := by
        rw [UInt8.toNat_ofNat']
        exact Nat.mod_eq_of_lt h1
      simp only [List.set_cons_zero, leN, h2, Nat.mul_zero, Nat.zero_add]
      rw [or_split _ _ h1, or_split _ _ b.toNat_lt, Nat.xor_assoc, Nat.xor_assoc, Nat.xor_comm (2 ^ j)]
  | succ i ih =>
    intro t c j ht hj
    cases t with
    | nil => simp at ht
    | cons b r =>
      simp only [List.getElem?_cons_succ] at ht
      simp only [List.set_cons_succ, leN, ih r c j ht hj]
      rw [or_split _ _ b.toNat_lt, or_split _ _ b.toNat_lt]
      have e : (256 : Nat) = 2 ^ 8 := by decide
      rw [e, mul_xor, ← Nat.pow_add, show 8 + (8 * i + j) = 8 * (i + 1) + j by omega, Nat.xor_assoc]
theorem leN_inj : ∀ (a b : List UInt8), a.length = b.length → leN a = leN b → a = b := by
  intro a
  induction a with
  | nil => intro b h _; cases b with
    | nil => rfl
    | cons => simp at h
  | cons x a ih =>
    intro b h hl
    cases b with
    | nil => simp at h
    | cons y b =>
      simp only [leN] at hl
      have hx := x.toNat_lt
      have hy := y.toNat_lt
      have h1 : x.toNat = y.toNat := by omega
      rw [UInt8.toNat_inj.1 h1, ih b (by simpa using h) (by omega)]
theorem opn_burst {y t : List UInt8} {p w : Nat} (hlen : t.length = (sealB y).length) (hw0 : w ≠ 0) (hw : w < 4294967296) (hp : p ≤ 8 * t.length) (hx : leN t = leN (sealB y) ^^^ (2 ^ p * w)) : opn t = ([], 5) := by
  have h4 := sealB_length y
  have hx' : leN (sealB y) ^^^ leN t = 2 ^ p * w := by rw [hx, ← Nat.xor_assoc, Nat.xor_self, Nat.zero_xor]
  have := seal_burst hlen hw0 hw hp hx'
  unfold opn
  rw [if_neg (by omega), if_neg this]
theorem splice_byte (t : List UInt8) (i : Nat) (hi : i < t.length) (x : Int) (h0 : 0 ≤ x) (h1 : x ≤ 255) : splice (bytesC t) i [.v (.int .u8 x)] = bytesC (t.set i (UInt8.ofNat x.toNat)) := by
  apply List.ext_getElem?
  intro j
  have e : ((UInt8.ofNat x.toNat).toNat : Int) = x := by
    rw [UInt8.toNat_ofNat']
    omega
  rw [splice_get _ _ _ _ (by simp [bytesC]; omega)]
  simp only [bytesC, List.getElem?_map, List.length_cons, List.length_nil, Nat.zero_add]
  by_cases hj : j = i
  · subst hj
    rw [if_pos (by omega), Nat.sub_self, List.getElem?_set_self hi]
    simp only [List.getElem?_cons_zero, Option.map_some, e]
  · rw [if_neg (by omega), List.getElem?_set_ne (Ne.symm hj)]
theorem bytesC_get (t : List UInt8) (i : Nat) : (bytesC t)[i]? = (t[i]?).map fun b => AV.v (.int .u8 b.toNat) := by simp [bytesC]

end Go.Proofs.YtjkdahpoalnjjaaDoor.VL

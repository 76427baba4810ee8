/- Layers 12, 13: disks and journals, in plain lists. -/
import Derived.Test.YtkkhbmpcpilmfaaTakeM
import Derived.Test.YtkkhbmpcpilmfaaSealB
import Derived.Test.YtkkhbmpcpilmfaaVLBytes
set_option linter.unusedVariables false
set_option linter.unusedSimpArgs false
namespace Go.Proofs.Ytkkhbmpcpilmfaa.VL
open Go Go.RowKit Go.Lib

/-- A journal's record. -/
structure Rc where
  q : Int
  g : Int
  n : List UInt8
def R0 : Rc := ⟨0, 0, []⟩
abbrev rcV (x : Rc) : AV := .agg [vi x.q, vi x.g, vs x.n]
def jmay (x : Rc) : Bool := decide (1 ≤ x.q ∧ x.q ≤ 1099511627776 ∧ 1 ≤ x.g ∧ x.g ≤ 1099511627776 ∧ x.n.length ≤ 30)
def recIn (x : Rc) : List UInt8 := numB x.q ++ (numB x.g ++ textB x.n)
def recS (x : Rc) : List UInt8 := sealB (recIn x)
def recB (x : Rc) : List UInt8 := (spl (zerosB 64) 0 (recS x)).set 63 (UInt8.ofNat 165)
def jlay (x : Rc) : List UInt8 := if jmay x = true then recB x else zerosB 64
def jlayE (x : Rc) : Int := if jmay x = true then 0 else 1
abbrev layV (x : Rc) : AV := .tup [.agg (bytesC (jlay x)), vi (jlayE x)]

theorem jmay_spec {x : Rc} (h : jmay x = true) : 1 ≤ x.q ∧ x.q ≤ 1099511627776 ∧ 1 ≤ x.g ∧ x.g ≤ 1099511627776 ∧ x.n.length ≤ 30 := by simpa [jmay] using h
theorem numB_len6 {n : Int} (h0 : 0 ≤ n) (h : n ≤ 1099511627776) : (numB n).length ≤ 6 := by
  obtain ⟨m, rfl⟩ := Int.eq_ofNat_of_zero_le h0
  rw [numB_natI m (by omega)]
  refine nb_length_le 6 m ?_ (by decide)
  have : (128 : Nat) ^ 6 = 4398046511104 := by decide
  omega
theorem recIn_length {x : Rc} (h : jmay x = true) : (recIn x).length ≤ 43 := by
  have hs := jmay_spec h
  have h1 := numB_len6 (show 0 ≤ x.q by omega) hs.2.1
  have h2 := numB_len6 (show 0 ≤ x.g by omega) hs.2.2.2.1
  have h3 : (numB (x.n.length : Int)).length ≤ 1 := by
    rw [numB_natI _ (by omega)]
    exact nb_length_le 1 _ (by have : (128 : Nat) ^ 1 = 128 := by decide
                               omega) (by decide)
  simp [recIn, textB]
  omega
theorem recS_length {x : Rc} (h : jmay x = true) : (recS x).length ≤ 47 := by
  have := recIn_length h
  rw [recS, sealB_length]; omega
theorem recB_length {x : Rc} (h : jmay x = true) : (recB x).length = 64 := by
  have := recS_length h
  rw [recB, List.length_set, spl_length _ _ _ (by rw [zerosB_length]; omega), zerosB_length]
theorem jlay_length (x : Rc) : (jlay x).length = 64 := by
  unfold jlay
  split
  · rename_i h; exact recB_length h
  · simp [zerosB]
theorem recB_last {x : Rc} (h : jmay x = true) : (recB x)[63]? = some (UInt8.ofNat 165) := by
  have := recB_length h
  rw [recB, List.length_set] at this
  rw [recB, List.getElem?_set_self (by omega)]
theorem recB_front {x : Rc} (h : jmay x = true) : recB x = recIn x ++ (recB x).drop (recIn x).length := by
  have h1 := recIn_length h
  have h2 := recS_length h
  have : (recB x).take (recIn x).length = recIn x := by
    apply List.ext_getElem?
    intro i
    rw [List.getElem?_take]
    by_cases hi : i < (recIn x).length
    · rw [if_pos hi, recB, List.getElem?_set_ne (by omega), spl, List.take_zero, List.nil_append, List.getElem?_append_left (by rw [recS, sealB_length]; omega), recS, sealB, List.getElem?_append_left hi]
    · rw [if_neg hi, List.getElem?_eq_none (by omega)]
  rw [← this, List.length_take, Nat.min_eq_left (by rw [recB_length h]; omega), List.take_append_drop]

/-- A sector's record, and what is wrong. -/
def jx (b : List UInt8) : Rc := ⟨(tk b).1, (tk (tk b).2.1).1, (tt (tk (tk b).2.1).2.1 30).1⟩
def jgood (b : List UInt8) : Bool := decide ((tk b).2.2 = 0 ∧ (tk (tk b).2.1).2.2 = 0 ∧ (tt (tk (tk b).2.1).2.1 30).2.2 = 0) && (jmay (jx b) && decide (recB (jx b) = b))
def jfind (b : List UInt8) : Rc × Int := if jgood b = true then (jx b, 0) else (R0, 10)

theorem jgood_spec {b : List UInt8} (h : jgood b = true) : (tk b).2.2 = 0 ∧ (tk (tk b).2.1).2.2 = 0 ∧ (tt (tk (tk b).2.1).2.1 30).2.2 = 0 ∧ jmay (jx b) = true ∧ recB (jx b) = b := by
  simp [jgood] at h
  simp [h]
theorem jfind_recB {x : Rc} (h : jmay x = true) : jfind (recB x) = (x, 0) := by
  have hs := jmay_spec h
  have hf := recB_front h
  obtain ⟨r, hr⟩ : ∃ r, r = (recB x).drop (recIn x).length := ⟨_, rfl⟩
  rw [← hr] at hf
  have e1 : tk (recB x) = (x.q.toNat, numB x.g ++ (textB x.n ++ r), 0) := by
    rw [hf]
    simp only [recIn, List.append_assoc]
    rw [tk_numB _ _ (by omega) (by omega)]
  have e2 : tk (numB x.g ++ (textB x.n ++ r)) = (x.g.toNat, textB x.n ++ r, 0) := by
    rw [tk_numB _ _ (by omega) (by omega)]
  have e3 := tt_textB x.n r 30 (by omega) (by omega)
  have hx : jx (recB x) = x := by
    unfold jx
    rw [e1]
    simp only [e2, e3]
    have h1 : ((x.q.toNat : Nat) : Int) = x.q := by omega
    have h2 : ((x.g.toNat : Nat) : Int) = x.g := by omega
    rw [h1, h2]
  have hg : jgood (recB x) = true := by
    unfold jgood
    rw [hx, h, e1]
    simp [e2, e3]
  rw [jfind, if_pos hg, hx]
/-- Behind a record's text there are bytes enough. -/
theorem jgood_rest {b : List UInt8} (hb : b.length = 64) (h1 : (tk b).2.2 = 0) (h2 : (tk (tk b).2.1).2.2 = 0) (h3 : (tt (tk (tk b).2.1).2.1 30).2.2 = 0) (hm : jmay (jx b) = true) (he : recB (jx b) = b) : 5 ≤ (tt (tk (tk b).2.1).2.1 30).2.1.length := by
  have t1 := tk_once h1
  have t2 := tk_once h2
  have t3 := (tt_once h3).1
  have f1 : (tk b).1 ≤ 4611686018427387904 := (tkGo_facts 9 0 0 b).2.1
  have f2 : (tk (tk b).2.1).1 ≤ 4611686018427387904 := (tkGo_facts 9 0 0 _).2.1
  have hl := recIn_length hm
  have : b = recIn (jx b) ++ (tt (tk (tk b).2.1).2.1 30).2.1 := by
    simp only [recIn, jx, numB_natI _ f1, numB_natI _ f2, List.append_assoc]
    rw [← t3, ← t2, ← t1]
  have hlen := congrArg List.length this
  rw [List.length_append] at hlen
  omega

end Go.Proofs.Ytkkhbmpcpilmfaa.VL

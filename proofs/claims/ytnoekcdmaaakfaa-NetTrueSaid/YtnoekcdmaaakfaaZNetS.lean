/- Layer 25: deeds, plain. -/
import Derived.Test.YtnoekcdmaaakfaaZNetP
set_option linter.unusedVariables false
set_option linter.unusedSimpArgs false
namespace Go.Proofs.Ytnoekcdmaaakfaa.VL
open Go Go.RowKit Go.Lib

structure Tu where
  k : Int
  a : Int
  b : Int
  d : List UInt8
abbrev v8 (n : Int) : AV := .v (.int .u8 n)
abbrev tuC (t : Tu) : List AV := [v8 t.k, v8 t.a, v8 t.b, vB t.d]
abbrev tuG (l : List Tu) : List (List AV) := l.map tuC
@[go_sem] theorem tuG_length (l : List Tu) : (tuG l).length = l.length := by simp [tuG]
@[go_sem] theorem tuG_get (l : List Tu) (i : Nat) : (tuG l)[i]? = (l[i]?).map tuC := by simp [tuG]
theorem lt_tu {n : Nat} (l : List Tu) : Lt n (.lst 4 (tuG l)) := .lst _ _ fun i j g c hi hj => by
  simp only [tuG, List.getElem?_map] at hi
  obtain ⟨b, _, rfl⟩ := Option.map_eq_some_iff.1 hi
  rcases j with _ | _ | _ | _ | j <;> simp at hj <;> subst hj
  · exact .v _
  · exact .v _
  · exact .v _
  · exact (lt_bytes _).mono (Nat.zero_le _)
def t8 (t : Tu) : Prop := (0 ≤ t.k ∧ t.k ≤ 255) ∧ (0 ≤ t.a ∧ t.a ≤ 255) ∧ (0 ≤ t.b ∧ t.b ≤ 255)

/-- A net without cuts. -/
structure N0 (fl : List Ml) : Prop where
  l : fl.length ≤ 60
  a : fl.all mlOk = true
theorem N0.ok {fl : List Ml} (h : N0 fl) : ntOk ⟨fl, []⟩ = true := by
  unfold ntOk
  simp only [chainOk, Bool.and_true, Bool.and_eq_true, decide_eq_true_eq, List.length_nil]
  exact ⟨h.l, by omega, h.a⟩
theorem N0.d {fl : List Ml} (h : N0 fl) : ∀ m ∈ fl, m.d.length ≤ 40000 := fun m hm => by
  have := List.all_eq_true.1 h.a m hm
  unfold mlOk at this
  simp only [Bool.and_eq_true, decide_eq_true_eq] at this
  exact this.2.2
theorem N0.L {fl : List Ml} (h : N0 fl) : NtL ⟨fl, []⟩ := ⟨by have := h.l; dsimp only; omega, by simp, fun m hm => by have := h.d m hm; omega⟩
theorem N0.nil : N0 [] := ⟨by simp, rfl⟩
theorem N0.snoc {fl : List Ml} (h : N0 fl) (hl : fl.length < 60) {m : Ml} (hm : mlOk m = true) : N0 (fl ++ [m]) := ⟨by simp; omega, by rw [List.all_append, h.a]; simp [hm]⟩
theorem N0.drop {fl : List Ml} (h : N0 fl) (i : Nat) : N0 (fl.take i ++ fl.drop (i + 1)) := ⟨by have := h.l; simp only [List.length_append, List.length_take, List.length_drop]; omega, List.all_eq_true.2 fun x hx => by
  rcases List.mem_append.1 hx with hx | hx
  · exact List.all_eq_true.1 h.a x (List.mem_of_mem_take hx)
  · exact List.all_eq_true.1 h.a x (List.mem_of_mem_drop hx)⟩
theorem N0.ask {fl : List Ml} (h : N0 fl) {x : Int} (h0 : 0 ≤ x) : askN ⟨fl, []⟩ x = if x < (fl.length : Int) then 0 else 7 := by
  unfold askN
  rw [if_neg (by rw [h.ok]; simp)]
  by_cases hx : x < (fl.length : Int)
  · rw [if_neg (by dsimp only; omega), if_pos hx]
  · rw [if_pos (by dsimp only; omega), if_neg hx]
theorem N0.send {fl : List Ml} (h : N0 fl) {m : Ml} (hm : mlOk m = true) : sendN ⟨fl, []⟩ [m] = if fl.length < 60 then (⟨fl ++ [m], []⟩, 0, 0) else (⟨fl, []⟩, 1, 0) := by
  unfold sendN
  rw [h.ok]
  have hl := h.l
  simp only [Bool.true_and, List.all_cons, hm, List.all_nil, Bool.and_true, if_true]
  by_cases hx : fl.length < 60
  · rw [if_pos hx, List.take_of_length_le (by simp; omega)]
    simp
    omega
  · rw [if_neg hx, show 60 - fl.length = 0 by omega]
    simp
theorem N0.lose {fl : List Ml} (h : N0 fl) {x : Int} (h0 : 0 ≤ x) : loseN ⟨fl, []⟩ x = if x < (fl.length : Int) then (⟨fl.take x.toNat ++ fl.drop (x.toNat + 1), []⟩, 0) else (⟨fl, []⟩, 7) := by
  unfold loseN
  rw [h.ask h0]
  by_cases hx : x < (fl.length : Int)
  · simp only [if_pos hx]; rfl
  · simp only [if_neg hx]; rfl
theorem N0.dbl {fl : List Ml} (h : N0 fl) {x : Int} (h0 : 0 ≤ x) : dblN ⟨fl, []⟩ x = if x < (fl.length : Int) then (if fl.length = 60 then (⟨fl, []⟩, 8) else (⟨fl ++ [fl.getD x.toNat mlZ], []⟩, 0)) else (⟨fl, []⟩, 7) := by
  unfold dblN
  rw [h.ask h0]
  by_cases hx : x < (fl.length : Int)
  · simp only [if_pos hx]; rfl
  · simp only [if_neg hx]; rfl
theorem mod8_ok {a b : Int} (ha : 0 ≤ a) (hb : 0 ≤ b) {d : List UInt8} (hd : d.length ≤ 100) : mlOk ⟨a % 8, b % 8, d⟩ = true := by
  unfold mlOk nodeOk
  simp
  omega

end Go.Proofs.Ytnoekcdmaaakfaa.VL

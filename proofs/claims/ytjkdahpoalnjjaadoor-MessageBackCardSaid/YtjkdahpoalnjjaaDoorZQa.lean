/- Layer 1: how a number is taken from bytes, in plain lists. -/
import Derived.Test.YtjkdahpoalnjjaaDoorZQuillB
import Derived.Test.YtjkdahpoalnjjaaDoorZCd
set_option linter.unusedVariables false
set_option linter.unusedSimpArgs false
namespace Go.Proofs.YtjkdahpoalnjjaaDoor.VL
open Go Go.RowKit Go.Lib

/-- The number that bytes begin with, what is behind it, and what is wrong: k digits may still come, there were i, which are n. -/
def tkGo : Nat → Nat → Nat → List UInt8 → Nat × List UInt8 × Int
  | 0, _, _, _ => (0, [], 3)
  | _ + 1, _, _, [] => (0, [], 2)
  | k + 1, i, n, c :: r => if 128 ≤ c.toNat then tkGo k (i + 1) (n + c.toNat % 128 * 128 ^ i) r
      else if 4611686018427387904 < n + c.toNat % 128 * 128 ^ i ∨ (nb (n + c.toNat % 128 * 128 ^ i)).length ≠ i + 1 then (0, [], 3) else (n + c.toNat % 128 * 128 ^ i, r, 0)
abbrev tk (bs : List UInt8) : Nat × List UInt8 × Int := tkGo 9 0 0 bs
/-- As values. -/
def tkV (x : Nat × List UInt8 × Int) : AV := .tup [vi x.1, if x.2.2 = 0 then vB x.2.1 else .emp, vi x.2.2]

theorem nb_lt (n : Nat) : n < 128 ^ (nb n).length := by
  induction n using Nat.strongRecOn with
  | _ n ih =>
    by_cases h : n < 128
    · rw [nb_small h]; simpa using h
    · have := ih (n / 128) (by omega)
      rw [nb_big (by omega), List.length_cons, Nat.pow_succ]
      omega
theorem pow128_le : ∀ i, i ≤ 9 → 128 ^ i ≤ 9223372036854775808 := by decide
/-- A number has just i + 1 digits if the last one is none but 0, or the only one. -/
theorem nb_digits {n c i : Nat} (hn : n < 128 ^ i) (hc : c < 128) : (nb (n + c * 128 ^ i)).length = i + 1 ↔ c ≠ 0 ∨ i = 0 := by
  have hpos : 0 < 128 ^ i := Nat.pow_pos (by decide)
  have hlt := nb_lt (n + c * 128 ^ i)
  have hle : n + c * 128 ^ i < 128 ^ (i + 1) := by
    have : (c + 1) * 128 ^ i ≤ 128 * 128 ^ i := Nat.mul_le_mul_right _ (by omega)
    rw [Nat.pow_succ, Nat.mul_comm (128 ^ i)]
    rw [Nat.add_mul] at this
    omega
  have hl := nb_length_le (i + 1) _ hle (by omega)
  constructor
  · intro h
    by_cases h0 : c = 0
    · right
      subst h0
      rw [Nat.zero_mul, Nat.add_zero] at h
      rcases Nat.eq_zero_or_pos i with h1 | h1
      · exact h1
      · have := nb_length_le i n hn h1
        omega
    · exact .inl h0
  · intro h
    refine Nat.le_antisymm hl ?_
    rcases h with h | h
    · refine Nat.lt_of_not_le fun hle2 => ?_
      have h1 : 128 ^ (nb (n + c * 128 ^ i)).length ≤ 128 ^ i := Nat.pow_le_pow_right (by decide) hle2
      have h2 : 1 * 128 ^ i ≤ c * 128 ^ i := Nat.mul_le_mul_right _ (by omega)
      omega
    · subst h; have := nb_pos (n + c * 128 ^ 0); omega
theorem digit_lt {n c i : Nat} (hn : n < 128 ^ i) (hi : i < 9) : n + c % 128 * 128 ^ i < 128 ^ (i + 1) := by
  have h := Nat.mod_lt c (show 128 > 0 by decide)
  have : (c % 128 + 1) * 128 ^ i ≤ 128 * 128 ^ i := Nat.mul_le_mul_right _ (by omega)
  rw [Nat.pow_succ, Nat.mul_comm (128 ^ i)]
  rw [Nat.add_mul] at this
  omega
theorem pow128 (i : Nat) : 128 ^ i = 2 ^ (7 * i) := by rw [Nat.pow_mul]
theorem or_digit {n c i : Nat} (hn : n < 128 ^ i) : n ||| c * 128 ^ i = n + c * 128 ^ i := by
  rw [pow128] at hn ⊢
  have := Nat.shiftLeft_add_eq_or_of_lt hn c
  rw [Nat.shiftLeft_eq] at this
  rw [Nat.or_comm, ← this, Nat.add_comm]

end Go.Proofs.YtjkdahpoalnjjaaDoor.VL

/- Layer 1: what the functions that lay and take numbers and texts compute. -/
-- STEPWISE
-- WK
set_option linter.unusedVariables false
set_option linter.unusedSimpArgs false
set_option maxRecDepth 10000
namespace Go.Proofs.YtjkdahpoalnjjaaDoor.VL
open Go Go.RowKit Go.Lib

set_option maxHeartbeats 2000000 in
theorem refTake_spec (bs : List UInt8) (hl : bs.length ≤ 1099511627776) (H : List Box) : ASpec Tryd.prog 39 [vB bs] H (Gives (tkV (tk bs)) H) := by
  refine ASpec.enter Tryd.func39 rfl (fun a w => Tryd.call39 a w) Tryd.ntmps39 Tryd.results39 fun base w β hI => ?_
  refine wk wT (wA DrM.mk wT) ?_
  refine AWP.loop (ι := {p : Nat × Nat × Nat // p.1 ≤ 9 ∧ p.1 ≤ bs.length ∧ p.2.2 = 128 ^ p.1 ∧ p.2.1 < 128 ^ p.1 ∧ tk bs = tkGo (9 - p.1) p.1 p.2.1 (bs.drop p.1)})
    (fun p => ⟨[(0, vB bs), (5, .v (.int .u64 p.1.2.1)), (6, .v (.int .u64 p.1.2.2)), (7, vi p.1.1)], H⟩) (fun p => 9 - p.1.1) ⟨(0, 0, 1), by decide, Nat.zero_le _, rfl, by decide, rfl⟩ ?_ ?_
  · dsimp only
    exact Coe.kp
  · rintro ⟨⟨i, n, U⟩, hi, hil, hU, hn, hp⟩
    dsimp only at hi hil hU hn hp ⊢
    by_cases h9 : (i : Int) < 9
    · have hpow := pow128_le (i + 1) (by omega)
      have hUU : U * 128 = 128 ^ (i + 1) := by rw [hU, Nat.pow_succ]
      rcases Nat.lt_or_ge i bs.length with hb | hb
      · have hne : ¬ (i : Int) = (bs.length : Int) := by omega
        have hg : bs[i]? = some bs[i] := List.getElem?_eq_getElem hb
        have hdr : bs.drop i = bs[i] :: bs.drop (i + 1) := List.drop_eq_getElem_cons hb
        generalize bs[i] = c at hg hdr
        have h256 : c.toNat < 256 := c.toNat_lt
        have hdl := digit_lt (c := c.toNat) hn (by omega)
        have hdg := nb_digits (c := c.toNat % 128) hn (by omega)
        rw [hdr, show 9 - i = (8 - i) + 1 by omega, tkGo] at hp
        obtain ⟨d, hd⟩ : ∃ d, d = c.toNat % 128 * 128 ^ i := ⟨_, rfl⟩
        rw [← hd] at hdl hp hdg
        have hmul : IntKind.u64.wrap ((c.toNat : Int) % 128 * (U : Int)) = (d : Int) := by
          have e : (c.toNat : Int) % 128 * (U : Int) = (d : Int) := by rw [hd, hU, Int.natCast_mul]; rfl
          rw [e, wu64 (by omega) (by omega)]
        rw [← hUU] at hdl hpow
        by_cases hc : (128 : Int) ≤ (c.toNat : Int)
        · refine wk (wA h9 (wA hne (wA hg (wA hmul (wA hc wT))))) (wA DrM.mk wT) ?_
          rw [if_pos (by omega)] at hp
          refine ⟨⟨(i + 1, n + d, U * 128), ?_, ?_, ?_, ?_, ?_⟩, ?_, ?_⟩ <;> dsimp only
          · omega
          · omega
          · exact hUU
          · rw [← hUU]; exact hdl
          · rw [show 9 - (i + 1) = 8 - i by omega]; exact hp
          · exact Coe.kp
            try simp
          · omega
        · by_cases hbig : (4611686018427387904 : Int) < (n : Int) + (d : Int)
          · refine wk (wA h9 (wA hne (wA hg (wA hmul (wA hc (wA hbig wT)))))) (wA DrM.mk wT) ?_
            refine wkEnd wT ?_
            rw [if_neg (by omega), if_pos (.inl (by omega))] at hp
            exact Fin.same ⟨by rw [hp]; rfl, rfl⟩
          · have hnB : numB ((n : Int) + (d : Int)) = nb (n + d) := by
              rw [numB_ok (by simp [okNum]; omega)]
              congr 1
            by_cases hs : ((nb (n + d)).length : Int) = (i : Int) + 1
            · refine wk (wA h9 (wA hne (wA hg (wA hmul (wA hc (wA hbig (wA hnB (wA hs wT)))))))) (wA (refSize_spec (n + d + 1) ((n : Int) + (d : Int)) _ (by omega)) (wA DrM.mk wT)) ?_
              refine wkEnd wT ?_
              rw [if_neg (by omega), if_neg (by omega)] at hp
              exact Fin.same ⟨by rw [hp, show ((i : Int) + 1).toNat = i + 1 by omega]; rfl, rfl⟩
            · refine wk (wA h9 (wA hne (wA hg (wA hmul (wA hc (wA hbig (wA hnB (wA hs wT)))))))) (wA (refSize_spec (n + d + 1) ((n : Int) + (d : Int)) _ (by omega)) (wA DrM.mk wT)) ?_
              refine wkEnd wT ?_
              rw [if_neg (by omega), if_pos (.inr (by omega))] at hp
              exact Fin.same ⟨by rw [hp]; rfl, rfl⟩
      · have hne : ((i : Int) = (bs.length : Int)) = True := by simp only [eq_iff_iff, iff_true]; omega
        refine wk (wA h9 (wA hne wT)) (wA DrM.mk wT) ?_
        refine wkEnd wT ?_
        rw [List.drop_eq_nil_of_le (by omega), show 9 - i = (8 - i) + 1 by omega, tkGo] at hp
        exact Fin.same ⟨by rw [hp]; rfl, rfl⟩
    · refine wk (wA h9 wT) (wA DrM.mk wT) ?_
      refine wkEnd wT ?_
      rw [show 9 - i = 0 by omega, tkGo] at hp
      exact Fin.same ⟨by rw [hp]; rfl, rfl⟩


theorem and_byte (c : Nat) (h : c < 256) : iand .u8 c 128 = if 128 ≤ c then 128 else 0 := by
  rw [iand_u8 (by omega) (by omega) (by omega) (by omega)]
  have key : ∀ k : _root_.Fin 256, k.val &&& 128 = if 128 ≤ k.val then 128 else 0 := by decide
  have : c &&& 128 = if 128 ≤ c then 128 else 0 := key ⟨c, h⟩
  show ((c &&& 128 : Nat) : Int) = _
  rw [this]
  split <;> rfl

set_option maxHeartbeats 2000000 in
theorem take_spec (bs : List UInt8) (hl : bs.length ≤ 1099511627776) (H : List Box) : ASpec Tryd.prog 80 [vB bs] H (Gives (tkV (tk bs)) H) := by
  obtain ⟨m, hm⟩ : ∃ m, m = min bs.length 9 := ⟨_, rfl⟩
  have hmin : (if (9 : Int) < (bs.length : Int) then (9 : Int) else (bs.length : Int)) = (m : Int) := by split <;> omega
  have hml : (bs.take m).length = m := by simp; omega
  refine ASpec.enter Tryd.func80 rfl (fun a w => Tryd.call80 a w) Tryd.ntmps80 Tryd.results80 fun base w β hI => ?_
  refine wk (wA hmin (wA hml wT)) (wA DrM.mk wT) ?_
  refine AWP.loop (ι := {p : Nat × Nat // p.1 ≤ m ∧ p.2 < 128 ^ p.1 ∧ tk bs = tkGo (9 - p.1) p.1 p.2 (bs.drop p.1)})
    (fun p => ⟨[(0, vB bs), (5, .v (.int .u64 p.1.2)), (12, vB (bs.take m)), (13, vi m), (14, vi p.1.1)], H⟩) (fun p => 9 - p.1.1) ⟨(0, 0), Nat.zero_le _, by decide, rfl⟩ ?_ ?_
  · dsimp only
    exact Coe.kp
  · rintro ⟨⟨i, u⟩, hi, hu, hp⟩
    dsimp only at hi hu hp ⊢
    by_cases him : (i : Int) < (m : Int)
    · have hb : i < bs.length := by omega
      have hg : (bs.take m)[i]? = some bs[i] := by rw [List.getElem?_take_of_lt (by omega)]; exact List.getElem?_eq_getElem hb
      have hdr : bs.drop i = bs[i] :: bs.drop (i + 1) := List.drop_eq_getElem_cons hb
      generalize bs[i] = c at hg hdr
      have h256 : c.toNat < 256 := c.toNat_lt
      have hdl := digit_lt (c := c.toNat) hu (by omega)
      have hor' := or_digit (c := c.toNat % 128) hu
      have hdg := nb_digits (c := c.toNat % 128) hu (by omega)
      have hpow := pow128_le (i + 1) (by omega)
      have hpw : ((2 : Int) ^ (7 * (i : Int)).toNat) = ((128 ^ i : Nat) : Int) := by
        rw [show (7 * (i : Int)).toNat = 7 * i by omega, pow128, Int.natCast_pow]; rfl
      rw [hdr, show 9 - i = (8 - i) + 1 by omega, tkGo] at hp
      obtain ⟨d, hd⟩ : ∃ d, d = c.toNat % 128 * 128 ^ i := ⟨_, rfl⟩
      rw [← hd] at hdl hp hdg hor'
      have hmul : IntKind.u64.wrap ((c.toNat : Int) % 128 * 2 ^ (7 * (i : Int)).toNat) = (d : Int) := by
        have e : (c.toNat : Int) % 128 * 2 ^ (7 * (i : Int)).toNat = (d : Int) := by rw [hpw, hd, Int.natCast_mul]; rfl
        rw [e, wu64 (by omega) (by omega)]
      have hor : ior .u64 u d = ((u : Int) + (d : Int)) := by
        rw [ior_u64 (by omega) (by omega) (by omega) (by omega), Int.toNat_natCast, Int.toNat_natCast, hor']
        rfl
      have han : iandNot .u8 (c.toNat : Int) 128 = (c.toNat : Int) % 128 := by
        have := andNot_byte (c.toNat : Int) (by omega)
        rwa [wu8 (by omega) (by omega)] at this
      have hand := and_byte c.toNat h256
      by_cases hc : 128 ≤ c.toNat
      · rw [if_pos hc] at hand hp
        refine wk (wA hmin (wA hml (wA him (wA hg (wA han (wA hmul (wA hor (wA hand wT)))))))) (wA DrM.mk wT) ?_
        refine ⟨⟨(i + 1, u + d), ?_, ?_, ?_⟩, ?_, ?_⟩ <;> dsimp only
        · omega
        · exact hdl
        · rw [show 9 - (i + 1) = 8 - i by omega]; exact hp
        · exact Coe.kp
        · omega
      · rw [if_neg hc] at hand hp
        by_cases hbig : (4611686018427387904 : Int) < (u : Int) + (d : Int)
        · refine wk (wA hmin (wA hml (wA him (wA hg (wA han (wA hmul (wA hor (wA hand (wA hbig wT))))))))) (wA DrM.mk wT) ?_
          refine wkEnd wT ?_
          rw [if_pos (.inl (by omega))] at hp
          exact Fin.same ⟨by rw [hp]; rfl, rfl⟩
        · by_cases hc0 : (c.toNat : Int) = 0
          · by_cases hi0 : (0 : Int) < (i : Int)
            · have hc0 := eq_true hc0
              refine wk (wA hmin (wA hml (wA him (wA hg (wA han (wA hmul (wA hor (wA hand (wA hbig (wA hc0 (wA hi0 wT))))))))))) (wA DrM.mk wT) ?_
              refine wkEnd wT ?_
              rw [if_pos (.inr (by omega))] at hp
              exact Fin.same ⟨by rw [hp]; rfl, rfl⟩
            · have hc0 := eq_true hc0
              refine wk (wA hmin (wA hml (wA him (wA hg (wA han (wA hmul (wA hor (wA hand (wA hbig (wA hc0 (wA hi0 wT))))))))))) (wA DrM.mk wT) ?_
              refine wkEnd wT ?_
              rw [if_neg (by omega)] at hp
              exact Fin.same ⟨by rw [hp, show ((i : Int) + 1).toNat = i + 1 by omega]; rfl, rfl⟩
          · refine wk (wA hmin (wA hml (wA him (wA hg (wA han (wA hmul (wA hor (wA hand (wA hbig (wA hc0 wT)))))))))) (wA DrM.mk wT) ?_
            refine wkEnd wT ?_
            rw [if_neg (by omega)] at hp
            exact Fin.same ⟨by rw [hp, show ((i : Int) + 1).toNat = i + 1 by omega]; rfl, rfl⟩
    · by_cases h9 : (bs.length : Int) < 9
      · refine wk (wA hmin (wA hml (wA him (wA h9 wT)))) (wA DrM.mk wT) ?_
        refine wkEnd wT ?_
        rw [List.drop_eq_nil_of_le (by omega), show 9 - i = (8 - i) + 1 by omega, tkGo] at hp
        exact Fin.same ⟨by rw [hp]; rfl, rfl⟩
      · refine wk (wA hmin (wA hml (wA him (wA h9 wT)))) (wA DrM.mk wT) ?_
        refine wkEnd wT ?_
        rw [show 9 - i = 0 by omega, tkGo] at hp
        exact Fin.same ⟨by rw [hp]; rfl, rfl⟩

end Go.Proofs.YtjkdahpoalnjjaaDoor.VL

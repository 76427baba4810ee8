/- Layer 1: how a number is taken from bytes, in plain lists. -/
import Derived.Test.YtnlmdeeadldgmaaGreatDoorZG22
import Derived.Test.YtnlmdeeadldgmaaGreatDoorZVLWalk
import Derived.Test.YtnlmdeeadldgmaaGreatDoorZG14
set_option linter.unusedVariables false
set_option linter.unusedSimpArgs false
namespace Go.Proofs.YtnlmdeeadldgmaaGreatDoor.VL
open Go Go.RowKit Go.Lib

/-- The number that bytes begin with, what is behind it, and what is wrong: k digits may still come, there were i, which are n. -/
def tkGo : Nat → Nat → Nat → List UInt8 → Nat × List UInt8 × Int
  | 0, _, _, _ => (0, [], 3)
  | _ + 1, _, _, [] => (0, [], 2)
  | k + 1, i, n, c :: r => if 128 ≤ c.toNat then tkGo k (i + 1) (n + c.toNat % 128 * 128 ^ i) r
      else if 4611686018427387904 < n + c.toNat % 128 * 128 ^ i ∨ (nb (n + c.toNat % 128 * 128 ^ i)).length ≠ i + 1 then (0, [], 3) else (n + c.toNat % 128 * 128 ^ i, r, 0)
abbrev tk (bs : List UInt8) : Nat × List UInt8 × Int := tkGo 9 0 0 bs
/-- As values. -/
def tkV (x : Nat × List UInt8 × Int) : AV := .tup [vi x.1, if x.2.2 = 0 then vB x.2.1 else .emp, vi x.2.2]

theorem nb_lt (n : Nat) : n < 128 ^ (nb n).length := by
  induction n using Nat.strongRecOn with
  | _ n ih =>
    by_cases h : n < 128
    · rw [nb_small h]; simpa using h
    · have := ih (n / 128) (by omega)
      rw [nb_big (by omega), List.length_cons, Nat.pow_succ]
      omega
theorem pow128_le : ∀ i, i ≤ 9 → 128 ^ i ≤ 9223372036854775808 := by decide
/-- A number has just i + 1 digits if the last one is none but 0, or the only one. -/
theorem nb_digits {n c i : Nat} (hn : n < 128 ^ i) (hc : c < 128) : (nb (n + c * 128 ^ i)).length = i + 1 ↔ c ≠ 0 ∨ i = 0 := by
  have hpos : 0 < 128 ^ i := Nat.pow_pos (by decide)
  have hlt := nb_lt (n + c * 128 ^ i)
  have hle : n + c * 128 ^ i < 128 ^ (i + 1) := by
    have : (c + 1) * 128 ^ i ≤ 128 * 128 ^ i := Nat.mul_le_mul_right _ (by omega)
    rw [Nat.pow_succ, Nat.mul_comm (128 ^ i)]
    rw [Nat.add_mul] at this
    omega
  have hl := nb_length_le (i + 1) _ hle (by omega)
  constructor
  · intro h
    by_cases h0 : c = 0
    · right
      subst h0
      rw [Nat.zero_mul, Nat.add_zero] at h
      rcases Nat.eq_zero_or_pos i with h1 | h1
      · exact h1
      · have := nb_length_le i n hn h1
        omega
    · exact .inl h0
  · intro h
    refine Nat.le_antisymm hl ?_
    rcases h with h | h
    · refine Nat.lt_of_not_le fun hle2 => ?_
      have h1 : 128 ^ (nb (n + c * 128 ^ i)).length ≤ 128 ^ i := Nat.pow_le_pow_right (by decide) hle2
      have h2 : 1 * 128 ^ i ≤ c * 128 ^ i := Nat.mul_le_mul_right _ (by omega)
      omega
    · subst h; have := nb_pos (n + c * 128 ^ 0); omega
theorem digit_lt {n c i : Nat} (hn : n < 128 ^ i) (hi : i < 9) : n + c % 128 * 128 ^ i < 128 ^ (i + 1) := by
  have h := Nat.mod_lt c (show 128 > 0 by decide)
  have : (c % 128 + 1) * 128 ^ i ≤ 128 * 128 ^ i := Nat.mul_le_mul_right _ (by omega)
  rw [Nat.pow_succ, Nat.mul_comm (128 ^ i)]
  rw [Nat.add_mul] at this
  omega
theorem pow128 (i : Nat) : 128 ^ i = 2 ^ (7 * i) := by rw [Nat.pow_mul]
theorem or_digit {n c i : Nat} (hn : n < 128 ^ i) : n ||| c * 128 ^ i = n + c * 128 ^ i := by
  rw [pow128] at hn ⊢
  have := Nat.shiftLeft_add_eq_or_of_lt hn c
  rw [Nat.shiftLeft_eq] at this
  rw [Nat.or_comm, ← this, Nat.add_comm]

end Go.Proofs.YtnlmdeeadldgmaaGreatDoor.VL

/- Layer 1: what the functions that lay and take numbers and texts compute. -/
-- STEPWISE
-- WK
set_option linter.unusedVariables false
set_option linter.unusedSimpArgs false
set_option maxRecDepth 10000
namespace Go.Proofs.YtnlmdeeadldgmaaGreatDoor.VL
open Go Go.RowKit Go.Lib

set_option maxHeartbeats 2000000 in
theorem refTake_spec (bs : List UInt8) (hl : bs.length ≤ 1099511627776) (H : List Box) : ASpec Tryz.prog 124 [vB bs] H (Gives (tkV (tk bs)) H) := by
  refine ASpec.enter Tryz.func124 rfl (fun a w => Tryz.call124 a w) Tryz.ntmps124 Tryz.results124 fun base w β hI => ?_
  refine wk wT (wA DrM.mk wT) ?_
  refine AWP.loop (ι := {p : Nat × Nat × Nat // p.1 ≤ 9 ∧ p.1 ≤ bs.length ∧ p.2.2 = 128 ^ p.1 ∧ p.2.1 < 128 ^ p.1 ∧ tk bs = tkGo (9 - p.1) p.1 p.2.1 (bs.drop p.1)})
    (fun p => ⟨[(0, vB bs), (5, .v (.int .u64 p.1.2.1)), (6, .v (.int .u64 p.1.2.2)), (7, vi p.1.1)], H⟩) (fun p => 9 - p.1.1) ⟨(0, 0, 1), by decide, Nat.zero_le _, rfl, by decide, rfl⟩ ?_ ?_
  · dsimp only
    exact Coe.kp
  · rintro ⟨⟨i, n, U⟩, hi, hil, hU, hn, hp⟩
    dsimp only at hi hil hU hn hp ⊢
    by_cases h9 : (i : Int) < 9
    · have hpow := pow128_le (i + 1) (by omega)
      have hUU : U * 128 = 128 ^ (i + 1) := by rw [hU, Nat.pow_succ]
      rcases Nat.lt_or_ge i bs.length with hb | hb
      · have hne : ¬ (i : Int) = (bs.length : Int) := by omega
        have hg : bs[i]? = some bs[i] := List.getElem?_eq_getElem hb
        have hdr : bs.drop i = bs[i] :: bs.drop (i + 1) := List.drop_eq_getElem_cons hb
        generalize bs[i] = c at hg hdr
        have h256 : c.toNat < 256 := c.toNat_lt
        have hdl := digit_lt (c := c.toNat) hn (by omega)
        have hdg := nb_digits (c := c.toNat % 128) hn (by omega)
        rw [hdr, show 9 - i = (8 - i) + 1 by omega, tkGo] at hp
        obtain ⟨d, hd⟩ : ∃ d, d = c.toNat % 128 * 128 ^ i := ⟨_, rfl⟩
        rw [← hd] at hdl hp hdg
        have hmul : IntKind.u64.wrap ((c.toNat : Int) % 128 * (U : Int)) = (d : Int) := by
          have e : (c.toNat : Int) % 128 * (U : Int) = (d : Int) := by rw [hd, hU, Int.natCast_mul]; rfl
          rw [e, wu64 (by omega) (by omega)]
        rw [← hUU] at hdl hpow
        by_cases hc : (128 : Int) ≤ (c.toNat : Int)
        · refine wk (wA h9 (wA hne (wA hg (wA hmul (wA hc wT))))) (wA DrM.mk wT) ?_
          rw [if_pos (by omega)] at hp
          refine ⟨⟨(i + 1, n + d, U * 128), ?_, ?_, ?_, ?_, ?_⟩, ?_, ?_⟩ <;> dsimp only
          · omega
          · omega
          · exact hUU
          · rw [← hUU]; exact hdl
          · rw [show 9 - (i + 1) = 8 - i by omega]; exact hp
          · exact Coe.kp
            try simp
          · omega
        · by_cases hbig : (4611686018427387904 : Int) < (n : Int) + (d : Int)
          · refine wk (wA h9 (wA hne (wA hg (wA hmul (wA hc (wA hbig wT)))))) (wA DrM.mk wT) ?_
            refine wkEnd wT ?_
            rw [if_neg (by omega), if_pos (.inl (by omega))] at hp
            exact Fin.same ⟨by rw [hp]; rfl, rfl⟩
          · have hnB : numB ((n : Int) + (d : Int)) = nb (n + d) := by
              rw [numB_ok (by simp [okNum]; omega)]
              congr 1
            by_cases hs : ((nb (n + d)).length : Int) = (i : Int) + 1
            · refine wk (wA h9 (wA hne (wA hg (wA hmul (wA hc (wA hbig (wA hnB (wA hs wT)))))))) (wA (refSize_spec (n + d + 1) ((n : Int) + (d : Int)) _ (by omega)) (wA DrM.mk wT)) ?_
              refine wkEnd wT ?_
              rw [if_neg (by omega), if_neg (by omega)] at hp
              exact Fin.same ⟨by rw [hp, show ((i : Int) + 1).toNat = i + 1 by omega]; rfl, rfl⟩
            · refine wk (wA h9 (wA hne (wA hg (wA hmul (wA hc (wA hbig (wA hnB (wA hs wT)))))))) (wA (refSize_spec (n + d + 1) ((n : Int) + (d : Int)) _ (by omega)) (wA DrM.mk wT)) ?_
              refine wkEnd wT ?_
              rw [if_neg (by omega), if_pos (.inr (by omega))] at hp
              exact Fin.same ⟨by rw [hp]; rfl, rfl⟩
      · have hne : ((i : Int) = (bs.length : Int)) = True := by simp only [eq_iff_iff, iff_true]; omega
        refine wk (wA h9 (wA hne wT)) (wA DrM.mk wT) ?_
        refine wkEnd wT ?_
        rw [List.drop_eq_nil_of_le (by omega), show 9 - i = (8 - i) + 1 by omega, tkGo] at hp
        exact Fin.same ⟨by rw [hp]; rfl, rfl⟩
    · refine wk (wA h9 wT) (wA DrM.mk wT) ?_
      refine wkEnd wT ?_
      rw [show 9 - i = 0 by omega, tkGo] at hp
      exact Fin.same ⟨by rw [hp]; rfl, rfl⟩


theorem and_byte (c : Nat) (h : c < 256) : iand .u8 c 128 = if 128 ≤ c then 128 else 0 := by
  rw [iand_u8 (by omega) (by omega) (by omega) (by omega)]
  have key : ∀ k : _root_.Fin 256, k.val &&& 128 = if 128 ≤ k.val then 128 else 0 := by decide
  have : c &&& 128 = if 128 ≤ c then 128 else 0 := key ⟨c, h⟩
  show ((c &&& 128 : Nat) : Int) = _
  rw [this]
  split <;> rfl

set_option maxHeartbeats 2000000 in
theorem take_spec (bs : List UInt8) (hl : bs.length ≤ 1099511627776) (H : List Box) : ASpec Tryz.prog 168 [vB bs] H (Gives (tkV (tk bs)) H) := by
  obtain ⟨m, hm⟩ : ∃ m, m = min bs.length 9 := ⟨_, rfl⟩
  have hmin : (if (9 : Int) < (bs.length : Int) then (9 : Int) else (bs.length : Int)) = (m : Int) := by split <;> omega
  have hml : (bs.take m).length = m := by simp; omega
  refine ASpec.enter Tryz.func168 rfl (fun a w => Tryz.call168 a w) Tryz.ntmps168 Tryz.results168 fun base w β hI => ?_
  refine wk (wA hmin (wA hml wT)) (wA DrM.mk wT) ?_
  refine AWP.loop (ι := {p : Nat × Nat // p.1 ≤ m ∧ p.2 < 128 ^ p.1 ∧ tk bs = tkGo (9 - p.1) p.1 p.2 (bs.drop p.1)})
    (fun p => ⟨[(0, vB bs), (5, .v (.int .u64 p.1.2)), (12, vB (bs.take m)), (13, vi m), (14, vi p.1.1)], H⟩) (fun p => 9 - p.1.1) ⟨(0, 0), Nat.zero_le _, by decide, rfl⟩ ?_ ?_
  · dsimp only
    exact Coe.kp
  · rintro ⟨⟨i, u⟩, hi, hu, hp⟩
    dsimp only at hi hu hp ⊢
    by_cases him : (i : Int) < (m : Int)
    · have hb : i < bs.length := by omega
      have hg : (bs.take m)[i]? = some bs[i] := by rw [List.getElem?_take_of_lt (by omega)]; exact List.getElem?_eq_getElem hb
      have hdr : bs.drop i = bs[i] :: bs.drop (i + 1) := List.drop_eq_getElem_cons hb
      generalize bs[i] = c at hg hdr
      have h256 : c.toNat < 256 := c.toNat_lt
      have hdl := digit_lt (c := c.toNat) hu (by omega)
      have hor' := or_digit (c := c.toNat % 128) hu
      have hdg := nb_digits (c := c.toNat % 128) hu (by omega)
      have hpow := pow128_le (i + 1) (by omega)
      have hpw : ((2 : Int) ^ (7 * (i : Int)).toNat) = ((128 ^ i : Nat) : Int) := by
        rw [show (7 * (i : Int)).toNat = 7 * i by omega, pow128, Int.natCast_pow]; rfl
      rw [hdr, show 9 - i = (8 - i) + 1 by omega, tkGo] at hp
      obtain ⟨d, hd⟩ : ∃ d, d = c.toNat % 128 * 128 ^ i := ⟨_, rfl⟩
      rw [← hd] at hdl hp hdg hor'
      have hmul : IntKind.u64.wrap ((c.toNat : Int) % 128 * 2 ^ (7 * (i : Int)).toNat) = (d : Int) := by
        have e : (c.toNat : Int) % 128 * 2 ^ (7 * (i : Int)).toNat = (d : Int) := by rw [hpw, hd, Int.natCast_mul]; rfl
        rw [e, wu64 (by omega) (by omega)]
      have hor : ior .u64 u d = ((u : Int) + (d : Int)) := by
        rw [ior_u64 (by omega) (by omega) (by omega) (by omega), Int.toNat_natCast, Int.toNat_natCast, hor']
        rfl
      have han : iandNot .u8 (c.toNat : Int) 128 = (c.toNat : Int) % 128 := by
        have := andNot_byte (c.toNat : Int) (by omega)
        rwa [wu8 (by omega) (by omega)] at this
      have hand := and_byte c.toNat h256
      by_cases hc : 128 ≤ c.toNat
      · rw [if_pos hc] at hand hp
        refine wk (wA hmin (wA hml (wA him (wA hg (wA han (wA hmul (wA hor (wA hand wT)))))))) (wA DrM.mk wT) ?_
        refine ⟨⟨(i + 1, u + d), ?_, ?_, ?_⟩, ?_, ?_⟩ <;> dsimp only
        · omega
        · exact hdl
        · rw [show 9 - (i + 1) = 8 - i by omega]; exact hp
        · exact Coe.kp
        · omega
      · rw [if_neg hc] at hand hp
        by_cases hbig : (4611686018427387904 : Int) < (u : Int) + (d : Int)
        · refine wk (wA hmin (wA hml (wA him (wA hg (wA han (wA hmul (wA hor (wA hand (wA hbig wT))))))))) (wA DrM.mk wT) ?_
          refine wkEnd wT ?_
          rw [if_pos (.inl (by omega))] at hp
          exact Fin.same ⟨by rw [hp]; rfl, rfl⟩
        · by_cases hc0 : (c.toNat : Int) = 0
          · by_cases hi0 : (0 : Int) < (i : Int)
            · have hc0 := eq_true hc0
              refine wk (wA hmin (wA hml (wA him (wA hg (wA han (wA hmul (wA hor (wA hand (wA hbig (wA hc0 (wA hi0 wT))))))))))) (wA DrM.mk wT) ?_
              refine wkEnd wT ?_
              rw [if_pos (.inr (by omega))] at hp
              exact Fin.same ⟨by rw [hp]; rfl, rfl⟩
            · have hc0 := eq_true hc0
              refine wk (wA hmin (wA hml (wA him (wA hg (wA han (wA hmul (wA hor (wA hand (wA hbig (wA hc0 (wA hi0 wT))))))))))) (wA DrM.mk wT) ?_
              refine wkEnd wT ?_
              rw [if_neg (by omega)] at hp
              exact Fin.same ⟨by rw [hp, show ((i : Int) + 1).toNat = i + 1 by omega]; rfl, rfl⟩
          · refine wk (wA hmin (wA hml (wA him (wA hg (wA han (wA hmul (wA hor (wA hand (wA hbig (wA hc0 wT)))))))))) (wA DrM.mk wT) ?_
            refine wkEnd wT ?_
            rw [if_neg (by omega)] at hp
            exact Fin.same ⟨by rw [hp, show ((i : Int) + 1).toNat = i + 1 by omega]; rfl, rfl⟩
    · by_cases h9 : (bs.length : Int) < 9
      · refine wk (wA hmin (wA hml (wA him (wA h9 wT)))) (wA DrM.mk wT) ?_
        refine wkEnd wT ?_
        rw [List.drop_eq_nil_of_le (by omega), show 9 - i = (8 - i) + 1 by omega, tkGo] at hp
        exact Fin.same ⟨by rw [hp]; rfl, rfl⟩
      · refine wk (wA hmin (wA hml (wA him (wA h9 wT)))) (wA DrM.mk wT) ?_
        refine wkEnd wT ?_
        rw [show 9 - i = 0 by omega, tkGo] at hp
        exact Fin.same ⟨by rw [hp]; rfl, rfl⟩

end Go.Proofs.YtnlmdeeadldgmaaGreatDoor.VL

/- Layer 1: texts; contracts with rows that are only read. -/
-- STEPWISE
-- WK
set_option linter.unusedVariables false
set_option linter.unusedSimpArgs false
set_option maxRecDepth 10000
namespace Go.Proofs.YtnlmdeeadldgmaaGreatDoor.VL
open Go Go.RowKit Go.Lib

/-- A new row of bytes that nobody writes is as good as one that is only read. -/
theorem ASpec.froz {f : FuncId} {args : List AV} {H : List Box} {bs : List UInt8} (h : ASpec Tryz.prog f args H (Owns bs H)) : ASpec Tryz.prog f args H (Gives (vB bs) H) :=
  h.shed fun E hE => by
    subst hE
    have := Shed.froz (E := E) (N := [⟨bytesC bs, 0, 0, true⟩]) (b := E.H.length) (g := 0) (off := 0) (n := bs.length) (sz := 1) (full := false) (bx := ⟨bytesC bs, 0, 0, true⟩) (by simp) (Nat.le_refl _) rfl (by simp [bytesC_length]) (fun m => by
      rw [List.drop_zero, chunk_bytesC bs _ rfl]; exact lt_bytes bs)
    rwa [List.drop_zero, chunk_bytesC bs _ rfl] at this
/-- The same, but its cells are only read from now on. -/
abbrev OwnsRo (bs : List UInt8) (H : List Box) : Out → List Box → Prop := fun o H' => o = .ret (.sl H.length 0 0 bs.length 1 false) ∧ H' = H ++ [⟨bytesC bs, bs.length, 0, true⟩]
theorem ASpec.ro {f : FuncId} {args : List AV} {H : List Box} {bs : List UInt8} (h : ASpec Tryz.prog f args H (Owns bs H)) : ASpec Tryz.prog f args H (OwnsRo bs H) :=
  h.shed fun E hE => by
    have := Shed.ro (E := E) (H := H ++ [⟨bytesC bs, 0, 0, true⟩]) (r := .sl H.length 0 0 bs.length 1 false) (b := H.length) (m := bs.length) (bx := ⟨bytesC bs, 0, 0, true⟩) (by simp) (by simp [bytesC_length])
    simpa using this
theorem ASpec.em0 {f : FuncId} {post : List AV} {H : List Box} {K : Out → List Box → Prop} (h : ASpec Tryz.prog f (vB [] :: post) H K) : ASpec Tryz.prog f (.emp :: post) H K := fun base => acall.em0 (h base)

theorem refText_spec (bs s : List UInt8) (hl : bs.length ≤ 1099511627000) (hs : s.length ≤ 1099511627776) (H : List Box) : ASpec Tryz.prog 88 [vB bs, vs s] H (Owns (bs ++ (numB s.length ++ s)) H) := by
  have h9 := numB_length_le s.length
  have hlen : (bs ++ numB s.length).length = bs.length + (numB s.length).length := List.length_append
  refine ASpec.enter Tryz.func88 rfl (fun a w => Tryz.call88 a w) Tryz.ntmps88 Tryz.results88 fun base w β hI => ?_
  refine wkL wT (wA (refNum_spec bs (by omega) s.length) (wA DrM.mk wT)) ?_
  refine wkEnd wT ?_
  exact Fin.owned (by simp) (by simp [Nat.add_assoc])
/-- The text that bytes begin with, what is behind it, and what is wrong. -/
def tt (bs : List UInt8) (most : Int) : List UInt8 × List UInt8 × Int :=
  if (tk bs).2.2 ≠ 0 then ([], [], (tk bs).2.2) else if most < ((tk bs).1 : Int) then ([], [], 4) else if (tk bs).2.1.length < (tk bs).1 then ([], [], 2)
  else ((tk bs).2.1.take (tk bs).1, (tk bs).2.1.drop (tk bs).1, 0)
def ttV (x : List UInt8 × List UInt8 × Int) : AV := .tup [vs x.1, if x.2.2 = 0 then vB x.2.1 else .emp, vi x.2.2]

theorem tkGo_facts : ∀ (k i n : Nat) (bs : List UInt8), (tkGo k i n bs).2.1.length ≤ bs.length ∧ (tkGo k i n bs).1 ≤ 4611686018427387904 ∧ 0 ≤ (tkGo k i n bs).2.2 ∧ (tkGo k i n bs).2.2 ≤ 3 := by
  intro k
  induction k with
  | zero => intro i n bs; simp [tkGo]
  | succ k ih =>
    intro i n bs
    cases bs with
    | nil => simp [tkGo]
    | cons c r =>
      rw [tkGo]
      split
      · have := ih (i + 1) (n + c.toNat % 128 * 128 ^ i) r
        simp only [List.length_cons]
        omega
      · split
        · simp
        · rename_i h
          simp only [List.length_cons]
          refine ⟨by omega, by omega, by omega, by omega⟩

theorem takeText_spec (bs : List UInt8) (most : Int) (hl : bs.length ≤ 1099511627776) (H : List Box) : ASpec Tryz.prog 167 [vB bs, vi most] H (Gives (ttV (tt bs most)) H) := by
  have hf := tkGo_facts 9 0 0 bs
  have hsp := take_spec bs hl
  unfold tt
  generalize tk bs = x at hf hsp ⊢
  obtain ⟨n, r, e⟩ := x
  dsimp only at hf hsp ⊢
  simp only [tkV] at hsp
  by_cases he : e = 0
  · subst he
    simp only [if_pos, if_true, ne_eq, not_true, if_false] at hsp ⊢
    by_cases hm : most < (n : Int)
    · refine ASpec.enter Tryz.func167 rfl (fun a w => Tryz.call167 a w) Tryz.ntmps167 Tryz.results167 fun base w β hI => ?_
      refine wk (wA hm wT) (wA hsp (wA DrM.mk wT)) ?_
      refine wkEnd wT ?_
      try rw [if_pos hm]
      exact Fin.same ⟨rfl, rfl⟩
    · by_cases hn : (r.length : Int) < (n : Int)
      · refine ASpec.enter Tryz.func167 rfl (fun a w => Tryz.call167 a w) Tryz.ntmps167 Tryz.results167 fun base w β hI => ?_
        refine wk (wA hm (wA hn wT)) (wA hsp (wA DrM.mk wT)) ?_
        refine wkEnd wT ?_
        try rw [if_neg hm, if_pos (by omega)]
        exact Fin.same ⟨rfl, rfl⟩
      · refine ASpec.enter Tryz.func167 rfl (fun a w => Tryz.call167 a w) Tryz.ntmps167 Tryz.results167 fun base w β hI => ?_
        refine wk (wA hm (wA hn wT)) (wA hsp (wA DrM.mk wT)) ?_
        refine wkEnd wT ?_
        try rw [if_neg hm, if_neg (by omega)]
        exact Fin.same ⟨by simp [ttV], rfl⟩
  · rw [if_neg he] at hsp
    rw [if_pos he]
    refine ASpec.enter Tryz.func167 rfl (fun a w => Tryz.call167 a w) Tryz.ntmps167 Tryz.results167 fun base w β hI => ?_
    refine wk (wA he wT) (wA hsp (wA DrM.mk wT)) ?_
    refine wkEnd wT ?_
    refine Fin.same ⟨?_, rfl⟩
    simp only [ttV, if_neg he]

theorem refTakeText_spec (bs : List UInt8) (most : Int) (hl : bs.length ≤ 1099511627776) (H : List Box) : ASpec Tryz.prog 123 [vB bs, vi most] H (Gives (ttV (tt bs most)) H) := by
  have hf := tkGo_facts 9 0 0 bs
  have hsp := refTake_spec bs hl
  unfold tt
  generalize tk bs = x at hf hsp ⊢
  obtain ⟨n, r, e⟩ := x
  dsimp only at hf hsp ⊢
  simp only [tkV] at hsp
  by_cases he : e = 0
  · subst he
    simp only [if_pos, if_true, ne_eq, not_true, if_false] at hsp ⊢
    by_cases hm : most < (n : Int)
    · refine ASpec.enter Tryz.func123 rfl (fun a w => Tryz.call123 a w) Tryz.ntmps123 Tryz.results123 fun base w β hI => ?_
      refine wk (wA hm wT) (wA hsp (wA DrM.mk wT)) ?_
      refine wkEnd wT ?_
      try rw [if_pos hm]
      exact Fin.same ⟨rfl, rfl⟩
    · by_cases hn : (r.length : Int) < (n : Int)
      · refine ASpec.enter Tryz.func123 rfl (fun a w => Tryz.call123 a w) Tryz.ntmps123 Tryz.results123 fun base w β hI => ?_
        refine wk (wA hm (wA hn wT)) (wA hsp (wA DrM.mk wT)) ?_
        refine wkEnd wT ?_
        try rw [if_neg hm, if_pos (by omega)]
        exact Fin.same ⟨rfl, rfl⟩
      · refine ASpec.enter Tryz.func123 rfl (fun a w => Tryz.call123 a w) Tryz.ntmps123 Tryz.results123 fun base w β hI => ?_
        refine wk (wA hm (wA hn wT)) (wA hsp (wA DrM.mk wT)) ?_
        refine wkEnd wT ?_
        try rw [if_neg hm, if_neg (by omega)]
        exact Fin.same ⟨by simp [ttV], rfl⟩
  · rw [if_neg he] at hsp
    rw [if_pos he]
    refine ASpec.enter Tryz.func123 rfl (fun a w => Tryz.call123 a w) Tryz.ntmps123 Tryz.results123 fun base w β hI => ?_
    refine wk (wA he wT) (wA hsp (wA DrM.mk wT)) ?_
    refine wkEnd wT ?_
    refine Fin.same ⟨?_, rfl⟩
    simp only [ttV, if_neg he]

end Go.Proofs.YtnlmdeeadldgmaaGreatDoor.VL

/- Layer 1: what is laid is taken. -/
-- STEPWISE
set_option linter.unusedVariables false
set_option linter.unusedSimpArgs false
set_option maxRecDepth 10000
namespace Go.Proofs.YtnlmdeeadldgmaaGreatDoor.VL
open Go Go.RowKit Go.Lib

/-- A number's digits are taken as that number. -/
theorem tkGo_nb : ∀ (k i n m : Nat) (more : List UInt8), (nb m).length ≤ k → n < 128 ^ i → n + m * 128 ^ i ≤ 4611686018427387904 → (i = 0 ∨ 0 < m) → tkGo k i n (nb m ++ more) = (n + m * 128 ^ i, more, 0) := by
  intro k
  induction k with
  | zero => intro i n m more h; have := nb_pos m; omega
  | succ k ih =>
    intro i n m more h hn hm hz
    by_cases h128 : m < 128
    · rw [nb_small h128]
      have hc : (UInt8.ofNat m).toNat = m := by rw [UInt8.toNat_ofNat']; omega
      simp only [List.cons_append, List.nil_append, tkGo]
      rw [hc, if_neg (by omega), Nat.mod_eq_of_lt h128, if_neg]
      have := nb_digits (c := m) hn h128
      have h2 : m ≠ 0 ∨ i = 0 := by omega
      have h3 := this.2 h2
      omega
    · have hnb := nb_big (show 128 ≤ m by omega)
      rw [hnb] at h ⊢
      have hc : (UInt8.ofNat (m % 128 + 128)).toNat = m % 128 + 128 := by rw [UInt8.toNat_ofNat']; omega
      simp only [List.cons_append, tkGo, List.length_cons] at h ⊢
      rw [hc, if_pos (by omega), show (m % 128 + 128) % 128 = m % 128 by omega]
      have hp : 0 < 128 ^ i := Nat.pow_pos (by decide)
      have e : n + m % 128 * 128 ^ i + m / 128 * 128 ^ (i + 1) = n + m * 128 ^ i := by
        have h1 : m = m % 128 + 128 * (m / 128) := (Nat.mod_add_div m 128).symm
        have h2 : m * 128 ^ i = m % 128 * 128 ^ i + 128 * (m / 128) * 128 ^ i := by
          rw [← Nat.add_mul, ← h1]
        rw [Nat.pow_succ, h2, Nat.add_assoc]
        congr 2
        rw [Nat.mul_comm (128 ^ i), ← Nat.mul_assoc, Nat.mul_comm (m / 128)]
      rw [ih (i + 1) _ (m / 128) more (by omega) ?_ (by omega) (.inr (by omega)), e]
      have := Nat.mod_lt m (show 128 > 0 by decide)
      have h5 : (m % 128 + 1) * 128 ^ i ≤ 128 * 128 ^ i := Nat.mul_le_mul_right _ (by omega)
      rw [Nat.pow_succ, Nat.mul_comm (128 ^ i)]
      rw [Nat.add_mul] at h5
      omega
theorem tk_nb (m : Nat) (more : List UInt8) (h : m ≤ 4611686018427387904) : tk (nb m ++ more) = (m, more, 0) := by
  have := tkGo_nb 9 0 0 m more (nb_length9 m h) (by decide) (by omega) (.inl rfl)
  simpa using this

/-- A number that is taken has just those bytes. -/
theorem tkGo_once : ∀ (k i n : Nat) (bs : List UInt8), n < 128 ^ i → (tkGo k i n bs).2.2 = 0 → ∃ m, (nb m).length ≤ k ∧ (i = 0 ∨ 0 < m) ∧ (tkGo k i n bs).1 = n + m * 128 ^ i ∧ bs = nb m ++ (tkGo k i n bs).2.1 := by
  intro k
  induction k with
  | zero => intro i n bs _ h; simp [tkGo] at h
  | succ k ih =>
    intro i n bs hn h
    cases bs with
    | nil => simp [tkGo] at h
    | cons c r =>
      rw [tkGo] at h ⊢
      have hp : 0 < 128 ^ i := Nat.pow_pos (by decide)
      have h256 := c.toNat_lt
      by_cases hc : 128 ≤ c.toNat
      · rw [if_pos hc] at h ⊢
        have hd : n + c.toNat % 128 * 128 ^ i < 128 ^ (i + 1) := by
          have h5 : (c.toNat % 128 + 1) * 128 ^ i ≤ 128 * 128 ^ i := Nat.mul_le_mul_right _ (by omega)
          rw [Nat.pow_succ, Nat.mul_comm (128 ^ i)]
          rw [Nat.add_mul] at h5
          omega
        obtain ⟨m, h1, h2, h3, h4⟩ := ih (i + 1) _ r hd h
        have hm : 0 < m := by omega
        have hb := nb_big (n := c.toNat % 128 + 128 * m) (by omega)
        have e1 : (c.toNat % 128 + 128 * m) % 128 = c.toNat % 128 := by omega
        have e2 : (c.toNat % 128 + 128 * m) / 128 = m := by omega
        rw [e1, e2, show c.toNat % 128 + 128 = c.toNat by omega] at hb
        have e3 : UInt8.ofNat c.toNat = c := by simp
        rw [e3] at hb
        refine ⟨c.toNat % 128 + 128 * m, by rw [hb]; simp; omega, .inr (by omega), ?_, ?_⟩
        · rw [h3, Nat.pow_succ, Nat.add_mul, Nat.add_assoc]
          congr 2
          rw [Nat.mul_comm (128 ^ i), ← Nat.mul_assoc, Nat.mul_comm m]
        · rw [hb, List.cons_append, ← h4]
      · rw [if_neg hc] at h ⊢
        split at h
        · simp at h
        · rename_i hh
          rw [if_neg hh]
          have hdg := nb_digits (c := c.toNat) hn (by omega)
          have e : c.toNat % 128 = c.toNat := by omega
          rw [e] at hh ⊢
          have hz : c.toNat ≠ 0 ∨ i = 0 := hdg.1 (by omega)
          have e3 : UInt8.ofNat c.toNat = c := by simp
          refine ⟨c.toNat, by rw [nb_small (by omega)]; simp, by omega, rfl, ?_⟩
          rw [nb_small (by omega), e3]
          rfl
theorem tk_once {bs : List UInt8} (h : (tk bs).2.2 = 0) : bs = nb (tk bs).1 ++ (tk bs).2.1 := by
  obtain ⟨m, _, _, h3, h4⟩ := tkGo_once 9 0 0 bs (by decide) h
  have : (tk bs).1 = m := by simpa using h3
  rw [this]
  exact h4
theorem tk_bad {bs : List UInt8} (h : ¬ (tk bs).2.2 = 0) : (tk bs).1 = 0 ∧ (tk bs).2.1 = [] := by
  have key : ∀ (k i n : Nat) (bs : List UInt8), ¬ (tkGo k i n bs).2.2 = 0 → (tkGo k i n bs).1 = 0 ∧ (tkGo k i n bs).2.1 = [] := by
    intro k
    induction k with
    | zero => intro i n bs _; exact ⟨rfl, rfl⟩
    | succ k ih =>
      intro i n bs h
      cases bs with
      | nil => exact ⟨rfl, rfl⟩
      | cons c r =>
        rw [tkGo] at h ⊢
        split
        · rename_i hc; rw [if_pos hc] at h; exact ih _ _ _ h
        · rename_i hc
          rw [if_neg hc] at h
          split
          · exact ⟨rfl, rfl⟩
          · rename_i hc2; rw [if_neg hc2] at h; exact absurd rfl h
  exact key _ _ _ _ h
/-- A number that is cut short is short. -/
theorem tkGo_short : ∀ (k i n m c : Nat), (nb m).length ≤ k → c < (nb m).length → tkGo k i n ((nb m).take c) = (0, [], 2) := by
  intro k
  induction k with
  | zero => intro i n m c h; have := nb_pos m; omega
  | succ k ih =>
    intro i n m c h hc
    cases c with
    | zero => rfl
    | succ c =>
      by_cases h128 : m < 128
      · rw [nb_small h128] at hc; simp at hc
      · rw [nb_big (by omega)] at h hc ⊢
        have hcc : (UInt8.ofNat (m % 128 + 128)).toNat = m % 128 + 128 := by rw [UInt8.toNat_ofNat']; omega
        simp only [List.length_cons, List.take_succ_cons, tkGo] at h hc ⊢
        rw [hcc, if_pos (by omega)]
        exact ih _ _ _ _ (by omega) (by omega)

end Go.Proofs.YtnlmdeeadldgmaaGreatDoor.VL

/- Layer 1: what is laid is taken, in plain lists. -/
set_option linter.unusedVariables false
set_option linter.unusedSimpArgs false
namespace Go.Proofs.YtnlmdeeadldgmaaGreatDoor.VL
open Go Go.RowKit Go.Lib

def textB (s : List UInt8) : List UInt8 := numB s.length ++ s
theorem numB_natI (n : Nat) (h : n ≤ 4611686018427387904) : numB (n : Int) = nb n := by
  rw [numB_ok (by simp [okNum]; omega)]
  simp
theorem tt_textB (s more : List UInt8) (most : Int) (h : (s.length : Int) ≤ most) (h2 : s.length ≤ 4611686018427387904) : tt (textB s ++ more) most = (s, more, 0) := by
  unfold tt textB
  rw [numB_natI _ h2, List.append_assoc, tk_nb _ _ h2]
  simp only [ne_eq, not_true, if_false]
  rw [if_neg (by omega), if_neg (by simp)]
  simp
theorem tk_numB (n : Int) (more : List UInt8) (h0 : 0 ≤ n) (h1 : n ≤ 4611686018427387904) : tk (numB n ++ more) = (n.toNat, more, 0) := by
  obtain ⟨m, rfl⟩ := Int.eq_ofNat_of_zero_le h0
  rw [numB_natI m (by omega), tk_nb m more (by omega)]
  rfl
theorem tt_once {bs : List UInt8} {most : Int} (h : (tt bs most).2.2 = 0) : bs = textB (tt bs most).1 ++ (tt bs most).2.1 ∧ ((tt bs most).1.length : Int) ≤ most := by
  unfold tt at h ⊢
  by_cases h1 : (tk bs).2.2 = 0
  · have ho := tk_once h1
    have hf := tkGo_facts 9 0 0 bs
    rw [if_neg (by simpa using h1)] at h ⊢
    by_cases h2 : most < ((tk bs).1 : Int)
    · rw [if_pos h2] at h; simp at h
    · rw [if_neg h2] at h ⊢
      by_cases h3 : (tk bs).2.1.length < (tk bs).1
      · rw [if_pos h3] at h; simp at h
      · rw [if_neg h3] at h ⊢
        have hl : ((tk bs).2.1.take (tk bs).1).length = (tk bs).1 := by simp; omega
        refine ⟨?_, by dsimp only; omega⟩
        dsimp only
        rw [textB, hl, numB_natI _ hf.2.1, List.append_assoc, List.take_append_drop]
        exact ho
  · rw [if_pos (by simpa using h1)] at h
    exact absurd h h1
theorem tt_facts (bs : List UInt8) (most : Int) : (tt bs most).2.1.length ≤ bs.length ∧ (tt bs most).1.length ≤ bs.length ∧ 0 ≤ (tt bs most).2.2 ∧ (tt bs most).2.2 ≤ 4 := by
  have hf : (tk bs).2.1.length ≤ bs.length ∧ (tk bs).1 ≤ 4611686018427387904 ∧ 0 ≤ (tk bs).2.2 ∧ (tk bs).2.2 ≤ 3 := tkGo_facts 9 0 0 bs
  unfold tt
  split
  · simp; omega
  · split
    · simp
    · split
      · simp
      · simp only [List.length_drop, List.length_take]; omega

end Go.Proofs.YtnlmdeeadldgmaaGreatDoor.VL

/- Layer 1: what is taken, the rest as a slice without elements where something is wrong. -/
set_option linter.unusedVariables false
set_option linter.unusedSimpArgs false
namespace Go.Proofs.YtnlmdeeadldgmaaGreatDoor.VL
open Go Go.RowKit Go.Lib

/-- The rest of bytes, none where something is wrong. -/
def rs (r : List UInt8) (e : Int) : List UInt8 := if e = 0 then r else []
theorem Rep.tupE {w : World} {H : List Box} {β : Pl} {a c : AV} {x : Value} (h : Rep w H β (.tup [a, .emp, c]) x) : Rep w H β (.tup [a, vB [], c]) x := by
  cases h with
  | tup cs vs hl h =>
    refine .tup _ vs (by simpa using hl) fun j c' x hc hx => ?_
    rcases j with _ | _ | j
    · exact h 0 c' x hc hx
    · simp at hc
      subst hc
      have := h 1 .emp x rfl hx
      cases this with
      | emp a => exact .lst0 _ _ _
    · exact h (j + 2) c' x hc hx
theorem takeText_spec' (bs : List UInt8) (most : Int) (hl : bs.length ≤ 1099511627776) (H : List Box) : ASpec Tryz.prog 167 [vB bs, vi most] H (Gives (.tup [vs (tt bs most).1, vB (rs (tt bs most).2.1 (tt bs most).2.2), vi (tt bs most).2.2]) H) := by
  have h := takeText_spec bs most hl H
  unfold ttV at h
  unfold rs
  by_cases he : (tt bs most).2.2 = 0
  · rw [if_pos he] at h ⊢; exact h
  · rw [if_neg he] at h ⊢
    exact h.shed fun E hE => by
      subst hE
      exact Shed.weak fun w β v h => h.tupE
theorem take_spec' (bs : List UInt8) (hl : bs.length ≤ 1099511627776) (H : List Box) : ASpec Tryz.prog 168 [vB bs] H (Gives (.tup [vi (tk bs).1, vB (rs (tk bs).2.1 (tk bs).2.2), vi (tk bs).2.2]) H) := by
  have h := take_spec bs hl H
  unfold tkV at h
  unfold rs
  by_cases he : (tk bs).2.2 = 0
  · rw [if_pos he] at h ⊢; exact h
  · rw [if_neg he] at h ⊢
    exact h.shed fun E hE => by
      subst hE
      exact Shed.weak fun w β v h => h.tupE
theorem refTakeText_spec' (bs : List UInt8) (most : Int) (hl : bs.length ≤ 1099511627776) (H : List Box) : ASpec Tryz.prog 123 [vB bs, vi most] H (Gives (.tup [vs (tt bs most).1, vB (rs (tt bs most).2.1 (tt bs most).2.2), vi (tt bs most).2.2]) H) := by
  have h := refTakeText_spec bs most hl H
  unfold ttV at h
  unfold rs
  by_cases he : (tt bs most).2.2 = 0
  · rw [if_pos he] at h ⊢; exact h
  · rw [if_neg he] at h ⊢
    exact h.shed fun E hE => by
      subst hE
      exact Shed.weak fun w β v h => h.tupE
theorem refTake_spec' (bs : List UInt8) (hl : bs.length ≤ 1099511627776) (H : List Box) : ASpec Tryz.prog 124 [vB bs] H (Gives (.tup [vi (tk bs).1, vB (rs (tk bs).2.1 (tk bs).2.2), vi (tk bs).2.2]) H) := by
  have h := refTake_spec bs hl H
  unfold tkV at h
  unfold rs
  by_cases he : (tk bs).2.2 = 0
  · rw [if_pos he] at h ⊢; exact h
  · rw [if_neg he] at h ⊢
    exact h.shed fun E hE => by
      subst hE
      exact Shed.weak fun w β v h => h.tupE

end Go.Proofs.YtnlmdeeadldgmaaGreatDoor.VL

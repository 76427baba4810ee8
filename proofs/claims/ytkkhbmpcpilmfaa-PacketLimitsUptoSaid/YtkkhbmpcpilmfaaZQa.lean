/- Layer 1: how a number is taken from bytes, in plain lists. -/
import Derived.Test.YtkkhbmpcpilmfaaZQuillB
import Derived.Test.YtkkhbmpcpilmfaaZCd
import Derived.Test.YtkkhbmpcpilmfaaZCc
set_option linter.unusedVariables false
set_option linter.unusedSimpArgs false
namespace Go.Proofs.Ytkkhbmpcpilmfaa.VL
open Go Go.RowKit Go.Lib

/-- The number that bytes begin with, what is behind it, and what is wrong: k digits may still come, there were i, which are n. -/
def tkGo : Nat → Nat → Nat → List UInt8 → Nat × List UInt8 × Int
  | 0, _, _, _ => (0, [], 3)
  | _ + 1, _, _, [] => (0, [], 2)
  | k + 1, i, n, c :: r => if 128 ≤ c.toNat then tkGo k (i + 1) (n + c.toNat % 128 * 128 ^ i) r
      else if 4611686018427387904 < n + c.toNat % 128 * 128 ^ i ∨ (nb (n + c.toNat % 128 * 128 ^ i)).length ≠ i + 1 then (0, [], 3) else (n + c.toNat % 128 * 128 ^ i, r, 0)
abbrev tk (bs : List UInt8) : Nat × List UInt8 × Int := tkGo 9 0 0 bs
/-- As values. -/
def tkV (x : Nat × List UInt8 × Int) : AV := .tup [vi x.1, if x.2.2 = 0 then vB x.2.1 else .emp, vi x.2.2]

theorem nb_lt (n : Nat) : n < 128 ^ (nb n).length := by
  induction n using Nat.strongRecOn with
  | _ n ih =>
    by_cases h : n < 128
    · rw [nb_small h]; simpa using h
    · have := ih (n / 128) (by omega)
      rw [nb_big (by omega), List.length_cons, Nat.pow_succ]
      omega
theorem pow128_le : ∀ i, i ≤ 9 → 128 ^ i ≤ 9223372036854775808 := by decide
/-- A number has just i + 1 digits if the last one is none but 0, or the only one. -/
theorem nb_digits {n c i : Nat} (hn : n < 128 ^ i) (hc : c < 128) : (nb (n + c * 128 ^ i)).length = i + 1 ↔ c ≠ 0 ∨ i = 0 := by
  have hpos : 0 < 128 ^ i := Nat.pow_pos (by decide)
  have hlt := nb_lt (n + c * 128 ^ i)
  have hle : n + c * 128 ^ i < 128 ^ (i + 1) := by
    have : (c + 1) * 128 ^ i ≤ 128 * 128 ^ i := Nat.mul_le_mul_right _ (by omega)
    rw [Nat.pow_succ, Nat.mul_comm (128 ^ i)]
    rw [Nat.add_mul] at this
    omega
  have hl := nb_length_le (i + 1) _ hle (by omega)
  constructor
  · intro h
    by_cases h0 : c = 0
    · right
      subst h0
      rw [Nat.zero_mul, Nat.add_zero] at h
      rcases Nat.eq_zero_or_pos i with h1 | h1
      · exact h1
      · have := nb_length_le i n hn h1
        omega
    · exact .inl h0
  · intro h
    refine Nat.le_antisymm hl ?_
    rcases h with h | h
    · refine Nat.lt_of_not_le fun hle2 => ?_
      have h1 : 128 ^ (nb (n + c * 128 ^ i)).length ≤ 128 ^ i := Nat.pow_le_pow_right (by decide) hle2
      have h2 : 1 * 128 ^ i ≤ c * 128 ^ i := Nat.mul_le_mul_right _ (by omega)
      omega
    · subst h; have := nb_pos (n + c * 128 ^ 0); omega
theorem digit_lt {n c i : Nat} (hn : n < 128 ^ i) (hi : i < 9) : n + c % 128 * 128 ^ i < 128 ^ (i + 1) := by
  have h := Nat.mod_lt c (show 128 > 0 by decide)
  have : (c % 128 + 1) * 128 ^ i ≤ 128 * 128 ^ i := Nat.mul_le_mul_right _ (by omega)
  rw [Nat.pow_succ, Nat.mul_comm (128 ^ i)]
  rw [Nat.add_mul] at this
  omega
theorem pow128 (i : Nat) : 128 ^ i = 2 ^ (7 * i) := by rw [Nat.pow_mul]
theorem or_digit {n c i : Nat} (hn : n < 128 ^ i) : n ||| c * 128 ^ i = n + c * 128 ^ i := by
  rw [pow128] at hn ⊢
  have := Nat.shiftLeft_add_eq_or_of_lt hn c
  rw [Nat.shiftLeft_eq] at this
  rw [Nat.or_comm, ← this, Nat.add_comm]

end Go.Proofs.Ytkkhbmpcpilmfaa.VL

/- Layer 1: what the functions that lay and take numbers and texts compute. -/
-- STEPWISE
-- WK
set_option linter.unusedVariables false
set_option linter.unusedSimpArgs false
set_option maxRecDepth 10000
namespace Go.Proofs.Ytkkhbmpcpilmfaa.VL
open Go Go.RowKit Go.Lib

theorem and_byte (c : Nat) (h : c < 256) : iand .u8 c 128 = if 128 ≤ c then 128 else 0 := by
  rw [iand_u8 (by omega) (by omega) (by omega) (by omega)]
  have key : ∀ k : _root_.Fin 256, k.val &&& 128 = if 128 ≤ k.val then 128 else 0 := by decide
  have : c &&& 128 = if 128 ≤ c then 128 else 0 := key ⟨c, h⟩
  show ((c &&& 128 : Nat) : Int) = _
  rw [this]
  split <;> rfl

set_option maxHeartbeats 2000000 in
theorem take_spec (bs : List UInt8) (hl : bs.length ≤ 1099511627776) (H : List Box) : ASpec Try.prog 71 [vB bs] H (Gives (tkV (tk bs)) H) := by
  obtain ⟨m, hm⟩ : ∃ m, m = min bs.length 9 := ⟨_, rfl⟩
  have hmin : (if (9 : Int) < (bs.length : Int) then (9 : Int) else (bs.length : Int)) = (m : Int) := by split <;> omega
  have hml : (bs.take m).length = m := by simp; omega
  refine ASpec.enter Try.func71 rfl (fun a w => Try.call71 a w) Try.ntmps71 Try.results71 fun base w β hI => ?_
  refine wk (wA hmin (wA hml wT)) wT ?_
  refine AWP.loop (ι := {p : Nat × Nat // p.1 ≤ m ∧ p.2 < 128 ^ p.1 ∧ tk bs = tkGo (9 - p.1) p.1 p.2 (bs.drop p.1)})
    (fun p => ⟨[(0, vB bs), (5, .v (.int .u64 p.1.2)), (12, vB (bs.take m)), (13, vi m), (14, vi p.1.1)], H⟩) (fun p => 9 - p.1.1) ⟨(0, 0), Nat.zero_le _, by decide, rfl⟩ ?_ ?_
  · dsimp only
    exact Coe.kp
  · rintro ⟨⟨i, u⟩, hi, hu, hp⟩
    dsimp only at hi hu hp ⊢
    by_cases him : (i : Int) < (m : Int)
    · have hb : i < bs.length := by omega
      have hg : (bs.take m)[i]? = some bs[i] := by rw [List.getElem?_take_of_lt (by omega)]; exact List.getElem?_eq_getElem hb
      have hdr : bs.drop i = bs[i] :: bs.drop (i + 1) := List.drop_eq_getElem_cons hb
      generalize bs[i] = c at hg hdr
      have h256 : c.toNat < 256 := c.toNat_lt
      have hdl := digit_lt (c := c.toNat) hu (by omega)
      have hor' := or_digit (c := c.toNat % 128) hu
      have hdg := nb_digits (c := c.toNat % 128) hu (by omega)
      have hpow := pow128_le (i + 1) (by omega)
      have hpw : ((2 : Int) ^ (7 * (i : Int)).toNat) = ((128 ^ i : Nat) : Int) := by
        rw [show (7 * (i : Int)).toNat = 7 * i by omega, pow128, Int.natCast_pow]; rfl
      rw [hdr, show 9 - i = (8 - i) + 1 by omega, tkGo] at hp
      obtain ⟨d, hd⟩ : ∃ d, d = c.toNat % 128 * 128 ^ i := ⟨_, rfl⟩
      rw [← hd] at hdl hp hdg hor'
      have hmul : IntKind.u64.wrap ((c.toNat : Int) % 128 * 2 ^ (7 * (i : Int)).toNat) = (d : Int) := by
        have e : (c.toNat : Int) % 128 * 2 ^ (7 * (i : Int)).toNat = (d : Int) := by rw [hpw, hd, Int.natCast_mul]; rfl
        rw [e, wu64 (by omega) (by omega)]
      have hor : ior .u64 u d = ((u : Int) + (d : Int)) := by
        rw [ior_u64 (by omega) (by omega) (by omega) (by omega), Int.toNat_natCast, Int.toNat_natCast, hor']
        rfl
      have han : iandNot .u8 (c.toNat : Int) 128 = (c.toNat : Int) % 128 := by
        have := andNot_byte (c.toNat : Int) (by omega)
        rwa [wu8 (by omega) (by omega)] at this
      have hand := and_byte c.toNat h256
      by_cases hc : 128 ≤ c.toNat
      · rw [if_pos hc] at hand hp
        refine wk (wA hmin (wA hml (wA him (wA hg (wA han (wA hmul (wA hor (wA hand wT)))))))) wT ?_
        refine ⟨⟨(i + 1, u + d), ?_, ?_, ?_⟩, ?_, ?_⟩ <;> dsimp only
        · omega
        · exact hdl
        · rw [show 9 - (i + 1) = 8 - i by omega]; exact hp
        · exact Coe.kp
        · omega
      · rw [if_neg hc] at hand hp
        by_cases hbig : (4611686018427387904 : Int) < (u : Int) + (d : Int)
        · refine wk (wA hmin (wA hml (wA him (wA hg (wA han (wA hmul (wA hor (wA hand (wA hbig wT))))))))) wT ?_
          refine wkEnd wT ?_
          rw [if_pos (.inl (by omega))] at hp
          exact Fin.same ⟨by rw [hp]; rfl, rfl⟩
        · by_cases hc0 : (c.toNat : Int) = 0
          · by_cases hi0 : (0 : Int) < (i : Int)
            · have hc0 := eq_true hc0
              refine wk (wA hmin (wA hml (wA him (wA hg (wA han (wA hmul (wA hor (wA hand (wA hbig (wA hc0 (wA hi0 wT))))))))))) wT ?_
              refine wkEnd wT ?_
              rw [if_pos (.inr (by omega))] at hp
              exact Fin.same ⟨by rw [hp]; rfl, rfl⟩
            · have hc0 := eq_true hc0
              refine wk (wA hmin (wA hml (wA him (wA hg (wA han (wA hmul (wA hor (wA hand (wA hbig (wA hc0 (wA hi0 wT))))))))))) wT ?_
              refine wkEnd wT ?_
              rw [if_neg (by omega)] at hp
              exact Fin.same ⟨by rw [hp, show ((i : Int) + 1).toNat = i + 1 by omega]; rfl, rfl⟩
          · refine wk (wA hmin (wA hml (wA him (wA hg (wA han (wA hmul (wA hor (wA hand (wA hbig (wA hc0 wT)))))))))) wT ?_
            refine wkEnd wT ?_
            rw [if_neg (by omega)] at hp
            exact Fin.same ⟨by rw [hp, show ((i : Int) + 1).toNat = i + 1 by omega]; rfl, rfl⟩
    · by_cases h9 : (bs.length : Int) < 9
      · refine wk (wA hmin (wA hml (wA him (wA h9 wT)))) wT ?_
        refine wkEnd wT ?_
        rw [List.drop_eq_nil_of_le (by omega), show 9 - i = (8 - i) + 1 by omega, tkGo] at hp
        exact Fin.same ⟨by rw [hp]; rfl, rfl⟩
      · refine wk (wA hmin (wA hml (wA him (wA h9 wT)))) wT ?_
        refine wkEnd wT ?_
        rw [show 9 - i = 0 by omega, tkGo] at hp
        exact Fin.same ⟨by rw [hp]; rfl, rfl⟩

end Go.Proofs.Ytkkhbmpcpilmfaa.VL

/- Layer 1: texts; contracts with rows that are only read. -/
-- STEPWISE
set_option linter.unusedVariables false
set_option linter.unusedSimpArgs false
set_option maxRecDepth 10000
namespace Go.Proofs.Ytkkhbmpcpilmfaa.VL
open Go Go.RowKit Go.Lib

/-- A new row of bytes that nobody writes is as good as one that is only read. -/
theorem ASpec.froz {f : FuncId} {args : List AV} {H : List Box} {bs : List UInt8} (h : ASpec Try.prog f args H (Owns bs H)) : ASpec Try.prog f args H (Gives (vB bs) H) :=
  h.shed fun E hE => by
    subst hE
    have := Shed.froz (E := E) (N := [⟨bytesC bs, 0, 0, true⟩]) (b := E.H.length) (g := 0) (off := 0) (n := bs.length) (sz := 1) (full := false) (bx := ⟨bytesC bs, 0, 0, true⟩) (by simp) (Nat.le_refl _) rfl (by simp [bytesC_length]) (fun m => by
      rw [List.drop_zero, chunk_bytesC bs _ rfl]; exact lt_bytes bs)
    rwa [List.drop_zero, chunk_bytesC bs _ rfl] at this
/-- The same, but its cells are only read from now on. -/
abbrev OwnsRo (bs : List UInt8) (H : List Box) : Out → List Box → Prop := fun o H' => o = .ret (.sl H.length 0 0 bs.length 1 false) ∧ H' = H ++ [⟨bytesC bs, bs.length, 0, true⟩]
theorem ASpec.ro {f : FuncId} {args : List AV} {H : List Box} {bs : List UInt8} (h : ASpec Try.prog f args H (Owns bs H)) : ASpec Try.prog f args H (OwnsRo bs H) :=
  h.shed fun E hE => by
    have := Shed.ro (E := E) (H := H ++ [⟨bytesC bs, 0, 0, true⟩]) (r := .sl H.length 0 0 bs.length 1 false) (b := H.length) (m := bs.length) (bx := ⟨bytesC bs, 0, 0, true⟩) (by simp) (by simp [bytesC_length])
    simpa using this
theorem ASpec.em0 {f : FuncId} {post : List AV} {H : List Box} {K : Out → List Box → Prop} (h : ASpec Try.prog f (vB [] :: post) H K) : ASpec Try.prog f (.emp :: post) H K := fun base => acall.em0 (h base)

theorem num1_spec (bs : List UInt8) (hl : bs.length ≤ 1099511627776) (n : Int) (H : List Box) : ASpec Try.prog 82 [vB bs, .lst 1 [[vi n]]] H (Owns (bs ++ numB n) H) := by
  have h := num_spec bs hl [n] (by simp) H
  have e : numsB [n] = numB n := by simp [numsB]
  rw [e] at h
  exact h
theorem num2_spec (bs : List UInt8) (hl : bs.length ≤ 1099511627776) (n m : Int) (H : List Box) : ASpec Try.prog 82 [vB bs, .lst 1 [[vi n], [vi m]]] H (Owns (bs ++ (numB n ++ numB m)) H) := by
  have h := num_spec bs hl [n, m] (by simp) H
  have e : numsB [n, m] = numB n ++ numB m := by simp [numsB]
  rw [e] at h
  exact h

theorem text_spec (bs s : List UInt8) (hl : bs.length ≤ 1099511627000) (hs : s.length ≤ 1099511627776) (H : List Box) : ASpec Try.prog 81 [vB bs, vs s] H (Owns (bs ++ (numB s.length ++ s)) H) := by
  have h9 := numB_length_le s.length
  intro base
  refine acall_body Try.func81 rfl (fun a w => Try.call81 a w) Try.ntmps81 Try.results81 (by simp) ?_
  intro w β hI
  simp only [number]
  repeat' (first
    | (refine AWP.seq ?_)
    | (refine AWP.block ?_)
    | (refine AWP.region_k fun Q' hQ' => ?_)
    | (refine AWP.draw_k rfl (by kernel_rfl) fun Q' hQ' => ?_)
    | (with_reducible refine aops.step fun T hT => ?_; simp (disch := omega) only [go_sem, Nat.reduceBEq, Nat.reduceLT, Nat.reduceEqDiff, reduceIte, Nat.reduceAdd, Nat.reduceMul, Nat.reduceSub, Nat.reduceLeDiff, Int.reduceToNat, Int.reducePow, Int.reduceLT, Int.reduceEq, Int.reduceNeg, Nat.reducePow, List.reduceReplicate, Int.reduceLE, List.length_append])
    | (with_reducible refine qops.step fun T hT => ?_; simp (disch := omega) only [go_sem, Nat.reduceBEq, Nat.reduceLT, Nat.reduceEqDiff, reduceIte, Nat.reduceAdd, Nat.reduceMul, Nat.reduceSub, Nat.reduceLeDiff, Int.reduceToNat, Int.reducePow, Int.reduceLT, Int.reduceEq, Int.reduceNeg, Nat.reducePow, List.reduceReplicate, Int.reduceLE, List.length_append])
    | (with_reducible refine aops.nil ?_)
    | (with_reducible refine qops.nil ?_)
    | (with_reducible refine hT _ ?_; clear hT T)
    | (refine AWP.skip ?_; try simp only [AExit.then, AExit.inBlock, reduceIte, Nat.reduceEqDiff])
    | (refine AWP.exit ?_; try simp only [AExit.then, AExit.inBlock, reduceIte, Nat.reduceEqDiff])
    | (refine AWP.ret ?_; try simp only [AExit.then, AExit.inBlock, reduceIte, Nat.reduceEqDiff])
    | (refine AWP.cond rfl (fun h => ?_) (fun h => ?_) <;> (try simp only [decide_eq_true_eq, decide_eq_false_iff_not, Bool.true_eq_false, Bool.false_eq_true] at h) <;> (try contradiction))
    | (refine hQ' _ _ ?_; clear hQ' Q'; try simp only [AExit.then, AExit.inBlock, reduceIte, Nat.reduceEqDiff])
    | (refine hQ' _ ?_; clear hQ' Q'; try simp only [AExit.then, AExit.inBlock, reduceIte, Nat.reduceEqDiff])
    | (with_reducible refine Branch.split (fun h => ?_) (fun h => ?_) <;> (try simp only [decide_eq_true_eq, decide_eq_false_iff_not, Bool.not_true, Bool.not_false, Bool.true_eq_false, Bool.false_eq_true] at h) <;> (try contradiction) <;> (simp (disch := omega) only [go_sem, Nat.reduceBEq, Nat.reduceLT, Nat.reduceEqDiff, reduceIte, Nat.reduceAdd, Nat.reduceMul, Nat.reduceSub, Nat.reduceLeDiff, Int.reduceToNat, Int.reducePow, Int.reduceLT, Int.reduceEq, Int.reduceNeg, Nat.reducePow, List.reduceReplicate, Int.reduceLE, h, List.length_append]))
    | (with_reducible intro h; try simp only [h, go_sem, Nat.reduceBEq, Nat.reduceLT, Nat.reduceEqDiff, reduceIte, Nat.reduceAdd, Nat.reduceMul, Nat.reduceSub, Nat.reduceLeDiff, Int.reduceToNat, Int.reducePow, Int.reduceLT, Int.reduceEq, Int.reduceNeg, Nat.reducePow, List.reduceReplicate, Int.reduceLE, List.length_append])
    | ((first | (with_reducible refine acall.det (num1_spec bs (by omega) s.length _) ?_) | (with_reducible refine qcall.det (num1_spec bs (by omega) s.length _) ?_)); try simp (disch := omega) only [go_sem, Nat.reduceBEq, Nat.reduceLT, Nat.reduceEqDiff, reduceIte, Nat.reduceAdd, Nat.reduceMul, Nat.reduceSub, Nat.reduceLeDiff, Int.reduceToNat, Int.reducePow, Int.reduceLT, Int.reduceEq, Int.reduceNeg, Nat.reducePow, List.reduceReplicate, Int.reduceLE, List.length_append]))
  simp only [bodyQ, go_sem, Nat.reduceBEq, Nat.reduceLT, Nat.reduceEqDiff, reduceIte, Nat.reduceAdd, Nat.reduceMul, Nat.reduceSub, Nat.reduceLeDiff, Int.reduceToNat, Int.reducePow, Int.reduceLT, Int.reduceEq, Int.reduceNeg, Nat.reducePow, List.reduceReplicate, Int.reduceLE]
  exact Fin.owned (by simp) (by simp [Nat.add_assoc])

/-- The text that bytes begin with, what is behind it, and what is wrong. -/
def tt (bs : List UInt8) (most : Int) : List UInt8 × List UInt8 × Int :=
  if (tk bs).2.2 ≠ 0 then ([], [], (tk bs).2.2) else if most < ((tk bs).1 : Int) then ([], [], 4) else if (tk bs).2.1.length < (tk bs).1 then ([], [], 2)
  else ((tk bs).2.1.take (tk bs).1, (tk bs).2.1.drop (tk bs).1, 0)
def ttV (x : List UInt8 × List UInt8 × Int) : AV := .tup [vs x.1, if x.2.2 = 0 then vB x.2.1 else .emp, vi x.2.2]

theorem tkGo_facts : ∀ (k i n : Nat) (bs : List UInt8), (tkGo k i n bs).2.1.length ≤ bs.length ∧ (tkGo k i n bs).1 ≤ 4611686018427387904 ∧ 0 ≤ (tkGo k i n bs).2.2 ∧ (tkGo k i n bs).2.2 ≤ 3 := by
  intro k
  induction k with
  | zero => intro i n bs; simp [tkGo]
  | succ k ih =>
    intro i n bs
    cases bs with
    | nil => simp [tkGo]
    | cons c r =>
      rw [tkGo]
      split
      · have := ih (i + 1) (n + c.toNat % 128 * 128 ^ i) r
        simp only [List.length_cons]
        omega
      · split
        · simp
        · rename_i h
          simp only [List.length_cons]
          refine ⟨by omega, by omega, by omega, by omega⟩

theorem takeText_spec (bs : List UInt8) (most : Int) (hl : bs.length ≤ 1099511627776) (H : List Box) : ASpec Try.prog 72 [vB bs, vi most] H (Gives (ttV (tt bs most)) H) := by
  have hf := tkGo_facts 9 0 0 bs
  have hsp := take_spec bs hl
  unfold tt
  generalize tk bs = x at hf hsp ⊢
  obtain ⟨n, r, e⟩ := x
  dsimp only at hf hsp ⊢
  simp only [tkV] at hsp
  by_cases he : e = 0
  · subst he
    simp only [if_pos, if_true, ne_eq, not_true, if_false] at hsp ⊢
    by_cases hm : most < (n : Int)
    · intro base
      refine acall_body Try.func72 rfl (fun a w => Try.call72 a w) Try.ntmps72 Try.results72 (by simp) ?_
      intro w β hI
      simp only [number]
      repeat' (first
        | (refine AWP.seq ?_)
        | (refine AWP.block ?_)
        | (refine AWP.region_k fun Q' hQ' => ?_)
        | (refine AWP.draw_k rfl (by kernel_rfl) fun Q' hQ' => ?_)
        | (with_reducible refine aops.step fun T hT => ?_; simp (disch := omega) only [go_sem, Nat.reduceBEq, Nat.reduceLT, Nat.reduceEqDiff, reduceIte, Nat.reduceAdd, Nat.reduceMul, Nat.reduceSub, Nat.reduceLeDiff, Int.reduceToNat, Int.reducePow, Int.reduceLT, Int.reduceEq, Int.reduceNeg, Nat.reducePow, List.reduceReplicate, Int.reduceLE, hm])
        | (with_reducible refine qops.step fun T hT => ?_; simp (disch := omega) only [go_sem, Nat.reduceBEq, Nat.reduceLT, Nat.reduceEqDiff, reduceIte, Nat.reduceAdd, Nat.reduceMul, Nat.reduceSub, Nat.reduceLeDiff, Int.reduceToNat, Int.reducePow, Int.reduceLT, Int.reduceEq, Int.reduceNeg, Nat.reducePow, List.reduceReplicate, Int.reduceLE, hm])
        | (with_reducible refine aops.nil ?_)
        | (with_reducible refine qops.nil ?_)
        | (with_reducible refine hT _ ?_; clear hT T)
        | (refine AWP.skip ?_; try simp only [AExit.then, AExit.inBlock, reduceIte, Nat.reduceEqDiff])
        | (refine AWP.exit ?_; try simp only [AExit.then, AExit.inBlock, reduceIte, Nat.reduceEqDiff])
        | (refine AWP.ret ?_; try simp only [AExit.then, AExit.inBlock, reduceIte, Nat.reduceEqDiff])
        | (refine AWP.cond rfl (fun h => ?_) (fun h => ?_) <;> (try simp only [decide_eq_true_eq, decide_eq_false_iff_not, Bool.true_eq_false, Bool.false_eq_true] at h) <;> (try contradiction))
        | (refine hQ' _ _ ?_; clear hQ' Q'; try simp only [AExit.then, AExit.inBlock, reduceIte, Nat.reduceEqDiff])
        | (refine hQ' _ ?_; clear hQ' Q'; try simp only [AExit.then, AExit.inBlock, reduceIte, Nat.reduceEqDiff])
        | (with_reducible refine Branch.split (fun h => ?_) (fun h => ?_) <;> (try simp only [decide_eq_true_eq, decide_eq_false_iff_not, Bool.not_true, Bool.not_false, Bool.true_eq_false, Bool.false_eq_true] at h) <;> (try contradiction) <;> (simp (disch := omega) only [go_sem, Nat.reduceBEq, Nat.reduceLT, Nat.reduceEqDiff, reduceIte, Nat.reduceAdd, Nat.reduceMul, Nat.reduceSub, Nat.reduceLeDiff, Int.reduceToNat, Int.reducePow, Int.reduceLT, Int.reduceEq, Int.reduceNeg, Nat.reducePow, List.reduceReplicate, Int.reduceLE, h, hm]))
        | (with_reducible intro h; try simp only [h, go_sem, Nat.reduceBEq, Nat.reduceLT, Nat.reduceEqDiff, reduceIte, Nat.reduceAdd, Nat.reduceMul, Nat.reduceSub, Nat.reduceLeDiff, Int.reduceToNat, Int.reducePow, Int.reduceLT, Int.reduceEq, Int.reduceNeg, Nat.reducePow, List.reduceReplicate, Int.reduceLE, hm])
        | ((first | (with_reducible refine acall.det (hsp _) ?_) | (with_reducible refine qcall.det (hsp _) ?_)); try simp (disch := omega) only [go_sem, Nat.reduceBEq, Nat.reduceLT, Nat.reduceEqDiff, reduceIte, Nat.reduceAdd, Nat.reduceMul, Nat.reduceSub, Nat.reduceLeDiff, Int.reduceToNat, Int.reducePow, Int.reduceLT, Int.reduceEq, Int.reduceNeg, Nat.reducePow, List.reduceReplicate, Int.reduceLE, hm]))
      simp only [bodyQ, go_sem, Nat.reduceBEq, Nat.reduceLT, Nat.reduceEqDiff, reduceIte, Nat.reduceAdd, Nat.reduceMul, Nat.reduceSub, Nat.reduceLeDiff, Int.reduceToNat, Int.reducePow, Int.reduceLT, Int.reduceEq, Int.reduceNeg, Nat.reducePow, List.reduceReplicate, Int.reduceLE]
      rw [if_pos hm]
      exact Fin.same ⟨rfl, rfl⟩
    · by_cases hn : (r.length : Int) < (n : Int)
      · intro base
        refine acall_body Try.func72 rfl (fun a w => Try.call72 a w) Try.ntmps72 Try.results72 (by simp) ?_
        intro w β hI
        simp only [number]
        repeat' (first
          | (refine AWP.seq ?_)
          | (refine AWP.block ?_)
          | (refine AWP.region_k fun Q' hQ' => ?_)
          | (refine AWP.draw_k rfl (by kernel_rfl) fun Q' hQ' => ?_)
          | (with_reducible refine aops.step fun T hT => ?_; simp (disch := omega) only [go_sem, Nat.reduceBEq, Nat.reduceLT, Nat.reduceEqDiff, reduceIte, Nat.reduceAdd, Nat.reduceMul, Nat.reduceSub, Nat.reduceLeDiff, Int.reduceToNat, Int.reducePow, Int.reduceLT, Int.reduceEq, Int.reduceNeg, Nat.reducePow, List.reduceReplicate, Int.reduceLE, hm, hn])
          | (with_reducible refine qops.step fun T hT => ?_; simp (disch := omega) only [go_sem, Nat.reduceBEq, Nat.reduceLT, Nat.reduceEqDiff, reduceIte, Nat.reduceAdd, Nat.reduceMul, Nat.reduceSub, Nat.reduceLeDiff, Int.reduceToNat, Int.reducePow, Int.reduceLT, Int.reduceEq, Int.reduceNeg, Nat.reducePow, List.reduceReplicate, Int.reduceLE, hm, hn])
          | (with_reducible refine aops.nil ?_)
          | (with_reducible refine qops.nil ?_)
          | (with_reducible refine hT _ ?_; clear hT T)
          | (refine AWP.skip ?_; try simp only [AExit.then, AExit.inBlock, reduceIte, Nat.reduceEqDiff])
          | (refine AWP.exit ?_; try simp only [AExit.then, AExit.inBlock, reduceIte, Nat.reduceEqDiff])
          | (refine AWP.ret ?_; try simp only [AExit.then, AExit.inBlock, reduceIte, Nat.reduceEqDiff])
          | (refine AWP.cond rfl (fun h => ?_) (fun h => ?_) <;> (try simp only [decide_eq_true_eq, decide_eq_false_iff_not, Bool.true_eq_false, Bool.false_eq_true] at h) <;> (try contradiction))
          | (refine hQ' _ _ ?_; clear hQ' Q'; try simp only [AExit.then, AExit.inBlock, reduceIte, Nat.reduceEqDiff])
          | (refine hQ' _ ?_; clear hQ' Q'; try simp only [AExit.then, AExit.inBlock, reduceIte, Nat.reduceEqDiff])
          | (with_reducible refine Branch.split (fun h => ?_) (fun h => ?_) <;> (try simp only [decide_eq_true_eq, decide_eq_false_iff_not, Bool.not_true, Bool.not_false, Bool.true_eq_false, Bool.false_eq_true] at h) <;> (try contradiction) <;> (simp (disch := omega) only [go_sem, Nat.reduceBEq, Nat.reduceLT, Nat.reduceEqDiff, reduceIte, Nat.reduceAdd, Nat.reduceMul, Nat.reduceSub, Nat.reduceLeDiff, Int.reduceToNat, Int.reducePow, Int.reduceLT, Int.reduceEq, Int.reduceNeg, Nat.reducePow, List.reduceReplicate, Int.reduceLE, h, hm, hn]))
          | (with_reducible intro h; try simp only [h, go_sem, Nat.reduceBEq, Nat.reduceLT, Nat.reduceEqDiff, reduceIte, Nat.reduceAdd, Nat.reduceMul, Nat.reduceSub, Nat.reduceLeDiff, Int.reduceToNat, Int.reducePow, Int.reduceLT, Int.reduceEq, Int.reduceNeg, Nat.reducePow, List.reduceReplicate, Int.reduceLE, hm, hn])
          | ((first | (with_reducible refine acall.det (hsp _) ?_) | (with_reducible refine qcall.det (hsp _) ?_)); try simp (disch := omega) only [go_sem, Nat.reduceBEq, Nat.reduceLT, Nat.reduceEqDiff, reduceIte, Nat.reduceAdd, Nat.reduceMul, Nat.reduceSub, Nat.reduceLeDiff, Int.reduceToNat, Int.reducePow, Int.reduceLT, Int.reduceEq, Int.reduceNeg, Nat.reducePow, List.reduceReplicate, Int.reduceLE, hm, hn]))
        simp only [bodyQ, go_sem, Nat.reduceBEq, Nat.reduceLT, Nat.reduceEqDiff, reduceIte, Nat.reduceAdd, Nat.reduceMul, Nat.reduceSub, Nat.reduceLeDiff, Int.reduceToNat, Int.reducePow, Int.reduceLT, Int.reduceEq, Int.reduceNeg, Nat.reducePow, List.reduceReplicate, Int.reduceLE]
        rw [if_neg hm, if_pos (by omega)]
        exact Fin.same ⟨rfl, rfl⟩
      · intro base
        refine acall_body Try.func72 rfl (fun a w => Try.call72 a w) Try.ntmps72 Try.results72 (by simp) ?_
        intro w β hI
        simp only [number]
        repeat' (first
          | (refine AWP.seq ?_)
          | (refine AWP.block ?_)
          | (refine AWP.region_k fun Q' hQ' => ?_)
          | (refine AWP.draw_k rfl (by kernel_rfl) fun Q' hQ' => ?_)
          | (with_reducible refine aops.step fun T hT => ?_; simp (disch := omega) only [go_sem, Nat.reduceBEq, Nat.reduceLT, Nat.reduceEqDiff, reduceIte, Nat.reduceAdd, Nat.reduceMul, Nat.reduceSub, Nat.reduceLeDiff, Int.reduceToNat, Int.reducePow, Int.reduceLT, Int.reduceEq, Int.reduceNeg, Nat.reducePow, List.reduceReplicate, Int.reduceLE, hm, hn])
          | (with_reducible refine qops.step fun T hT => ?_; simp (disch := omega) only [go_sem, Nat.reduceBEq, Nat.reduceLT, Nat.reduceEqDiff, reduceIte, Nat.reduceAdd, Nat.reduceMul, Nat.reduceSub, Nat.reduceLeDiff, Int.reduceToNat, Int.reducePow, Int.reduceLT, Int.reduceEq, Int.reduceNeg, Nat.reducePow, List.reduceReplicate, Int.reduceLE, hm, hn])
          | (with_reducible refine aops.nil ?_)
          | (with_reducible refine qops.nil ?_)
          | (with_reducible refine hT _ ?_; clear hT T)
          | (refine AWP.skip ?_; try simp only [AExit.then, AExit.inBlock, reduceIte, Nat.reduceEqDiff])
          | (refine AWP.exit ?_; try simp only [AExit.then, AExit.inBlock, reduceIte, Nat.reduceEqDiff])
          | (refine AWP.ret ?_; try simp only [AExit.then, AExit.inBlock, reduceIte, Nat.reduceEqDiff])
          | (refine AWP.cond rfl (fun h => ?_) (fun h => ?_) <;> (try simp only [decide_eq_true_eq, decide_eq_false_iff_not, Bool.true_eq_false, Bool.false_eq_true] at h) <;> (try contradiction))
          | (refine hQ' _ _ ?_; clear hQ' Q'; try simp only [AExit.then, AExit.inBlock, reduceIte, Nat.reduceEqDiff])
          | (refine hQ' _ ?_; clear hQ' Q'; try simp only [AExit.then, AExit.inBlock, reduceIte, Nat.reduceEqDiff])
          | (with_reducible refine Branch.split (fun h => ?_) (fun h => ?_) <;> (try simp only [decide_eq_true_eq, decide_eq_false_iff_not, Bool.not_true, Bool.not_false, Bool.true_eq_false, Bool.false_eq_true] at h) <;> (try contradiction) <;> (simp (disch := omega) only [go_sem, Nat.reduceBEq, Nat.reduceLT, Nat.reduceEqDiff, reduceIte, Nat.reduceAdd, Nat.reduceMul, Nat.reduceSub, Nat.reduceLeDiff, Int.reduceToNat, Int.reducePow, Int.reduceLT, Int.reduceEq, Int.reduceNeg, Nat.reducePow, List.reduceReplicate, Int.reduceLE, h, hm, hn]))
          | (with_reducible intro h; try simp only [h, go_sem, Nat.reduceBEq, Nat.reduceLT, Nat.reduceEqDiff, reduceIte, Nat.reduceAdd, Nat.reduceMul, Nat.reduceSub, Nat.reduceLeDiff, Int.reduceToNat, Int.reducePow, Int.reduceLT, Int.reduceEq, Int.reduceNeg, Nat.reducePow, List.reduceReplicate, Int.reduceLE, hm, hn])
          | ((first | (with_reducible refine acall.det (hsp _) ?_) | (with_reducible refine qcall.det (hsp _) ?_)); try simp (disch := omega) only [go_sem, Nat.reduceBEq, Nat.reduceLT, Nat.reduceEqDiff, reduceIte, Nat.reduceAdd, Nat.reduceMul, Nat.reduceSub, Nat.reduceLeDiff, Int.reduceToNat, Int.reducePow, Int.reduceLT, Int.reduceEq, Int.reduceNeg, Nat.reducePow, List.reduceReplicate, Int.reduceLE, hm, hn]))
        simp only [bodyQ, go_sem, Nat.reduceBEq, Nat.reduceLT, Nat.reduceEqDiff, reduceIte, Nat.reduceAdd, Nat.reduceMul, Nat.reduceSub, Nat.reduceLeDiff, Int.reduceToNat, Int.reducePow, Int.reduceLT, Int.reduceEq, Int.reduceNeg, Nat.reducePow, List.reduceReplicate, Int.reduceLE]
        rw [if_neg hm, if_neg (by omega)]
        exact Fin.same ⟨by simp [ttV], rfl⟩
  · rw [if_neg he] at hsp
    rw [if_pos he]
    intro base
    refine acall_body Try.func72 rfl (fun a w => Try.call72 a w) Try.ntmps72 Try.results72 (by simp) ?_
    intro w β hI
    simp only [number]
    repeat' (first
      | (refine AWP.seq ?_)
      | (refine AWP.block ?_)
      | (refine AWP.region_k fun Q' hQ' => ?_)
      | (refine AWP.draw_k rfl (by kernel_rfl) fun Q' hQ' => ?_)
      | (with_reducible refine aops.step fun T hT => ?_; simp (disch := omega) only [go_sem, Nat.reduceBEq, Nat.reduceLT, Nat.reduceEqDiff, reduceIte, Nat.reduceAdd, Nat.reduceMul, Nat.reduceSub, Nat.reduceLeDiff, Int.reduceToNat, Int.reducePow, Int.reduceLT, Int.reduceEq, Int.reduceNeg, Nat.reducePow, List.reduceReplicate, Int.reduceLE, he])
      | (with_reducible refine qops.step fun T hT => ?_; simp (disch := omega) only [go_sem, Nat.reduceBEq, Nat.reduceLT, Nat.reduceEqDiff, reduceIte, Nat.reduceAdd, Nat.reduceMul, Nat.reduceSub, Nat.reduceLeDiff, Int.reduceToNat, Int.reducePow, Int.reduceLT, Int.reduceEq, Int.reduceNeg, Nat.reducePow, List.reduceReplicate, Int.reduceLE, he])
      | (with_reducible refine aops.nil ?_)
      | (with_reducible refine qops.nil ?_)
      | (with_reducible refine hT _ ?_; clear hT T)
      | (refine AWP.skip ?_; try simp only [AExit.then, AExit.inBlock, reduceIte, Nat.reduceEqDiff])
      | (refine AWP.exit ?_; try simp only [AExit.then, AExit.inBlock, reduceIte, Nat.reduceEqDiff])
      | (refine AWP.ret ?_; try simp only [AExit.then, AExit.inBlock, reduceIte, Nat.reduceEqDiff])
      | (refine AWP.cond rfl (fun h => ?_) (fun h => ?_) <;> (try simp only [decide_eq_true_eq, decide_eq_false_iff_not, Bool.true_eq_false, Bool.false_eq_true] at h) <;> (try contradiction))
      | (refine hQ' _ _ ?_; clear hQ' Q'; try simp only [AExit.then, AExit.inBlock, reduceIte, Nat.reduceEqDiff])
      | (refine hQ' _ ?_; clear hQ' Q'; try simp only [AExit.then, AExit.inBlock, reduceIte, Nat.reduceEqDiff])
      | (with_reducible refine Branch.split (fun h => ?_) (fun h => ?_) <;> (try simp only [decide_eq_true_eq, decide_eq_false_iff_not, Bool.not_true, Bool.not_false, Bool.true_eq_false, Bool.false_eq_true] at h) <;> (try contradiction) <;> (simp (disch := omega) only [go_sem, Nat.reduceBEq, Nat.reduceLT, Nat.reduceEqDiff, reduceIte, Nat.reduceAdd, Nat.reduceMul, Nat.reduceSub, Nat.reduceLeDiff, Int.reduceToNat, Int.reducePow, Int.reduceLT, Int.reduceEq, Int.reduceNeg, Nat.reducePow, List.reduceReplicate, Int.reduceLE, h, he]))
      | (with_reducible intro h; try simp only [h, go_sem, Nat.reduceBEq, Nat.reduceLT, Nat.reduceEqDiff, reduceIte, Nat.reduceAdd, Nat.reduceMul, Nat.reduceSub, Nat.reduceLeDiff, Int.reduceToNat, Int.reducePow, Int.reduceLT, Int.reduceEq, Int.reduceNeg, Nat.reducePow, List.reduceReplicate, Int.reduceLE, he])
      | ((first | (with_reducible refine acall.det (hsp _) ?_) | (with_reducible refine qcall.det (hsp _) ?_)); try simp (disch := omega) only [go_sem, Nat.reduceBEq, Nat.reduceLT, Nat.reduceEqDiff, reduceIte, Nat.reduceAdd, Nat.reduceMul, Nat.reduceSub, Nat.reduceLeDiff, Int.reduceToNat, Int.reducePow, Int.reduceLT, Int.reduceEq, Int.reduceNeg, Nat.reducePow, List.reduceReplicate, Int.reduceLE, he]))
    simp only [bodyQ, go_sem, Nat.reduceBEq, Nat.reduceLT, Nat.reduceEqDiff, reduceIte, Nat.reduceAdd, Nat.reduceMul, Nat.reduceSub, Nat.reduceLeDiff, Int.reduceToNat, Int.reducePow, Int.reduceLT, Int.reduceEq, Int.reduceNeg, Nat.reducePow, List.reduceReplicate, Int.reduceLE]
    refine Fin.same ⟨?_, rfl⟩
    simp only [ttV, if_neg he]

end Go.Proofs.Ytkkhbmpcpilmfaa.VL

/- Layer 1: whether bytes are the same. -/
-- STEPWISE
-- WK
set_option linter.unusedVariables false
set_option linter.unusedSimpArgs false
set_option maxRecDepth 10000
namespace Go.Proofs.Ytkkhbmpcpilmfaa.VL
open Go Go.RowKit Go.Lib

theorem same_spec (a b : List UInt8) (ha : a.length ≤ 1099511627776) (hb : b.length ≤ 1099511627776) (H : List Box) : ASpec Try.prog 15 [vB a, vB b] H (Gives (vb (decide (a = b))) H) := by
  refine ASpec.enter Try.func15 rfl (fun a w => Try.call15 a w) Try.ntmps15 Try.results15 fun base w β hI => ?_
  refine wk wT wT ?_
  refine wkEnd wT ?_
  exact Fin.same ⟨rfl, rfl⟩

end Go.Proofs.Ytkkhbmpcpilmfaa.VL

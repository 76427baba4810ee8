/- Layer 2: sums of bytes, in plain numbers. -/
import Derived.Test.YtjkdahpoalnjjaaDoorZCd
import Derived.Test.YtjkdahpoalnjjaaDoorZQuillD
set_option linter.unusedVariables false
set_option linter.unusedSimpArgs false
namespace Go.Proofs.YtjkdahpoalnjjaaDoor.VL

/-- One bit of the sum's register. -/
def cstep (s : Nat) : Nat := if s % 2 = 1 then (s / 2) ^^^ 2197175160 else s / 2
def csteps : Nat → Nat → Nat
  | 0, s => s
  | k + 1, s => csteps k (cstep s)
def cbyte (s : Nat) (b : UInt8) : Nat := csteps 8 (s ^^^ b.toNat)
def crcGo (s : Nat) (bs : List UInt8) : Nat := bs.foldl cbyte s
def crc (bs : List UInt8) : Nat := crcGo 4294967295 bs ^^^ 4294967295
def le4 (s : Nat) : List UInt8 := [UInt8.ofNat s, UInt8.ofNat (s / 256), UInt8.ofNat (s / 65536), UInt8.ofNat (s / 16777216)]
def sealB (bs : List UInt8) : List UInt8 := bs ++ le4 (crc bs)

theorem xor_lt32 {a b : Nat} (ha : a < 4294967296) (hb : b < 4294967296) : a ^^^ b < 4294967296 := by
  have e : (2 : Nat) ^ 32 = 4294967296 := by decide
  rw [← e] at *
  exact Nat.xor_lt_two_pow ha hb
theorem cstep_lt {s : Nat} (h : s < 4294967296) : cstep s < 4294967296 := by
  unfold cstep
  split
  · exact xor_lt32 (by omega) (by decide)
  · omega
theorem csteps_lt : ∀ (k : Nat) {s : Nat}, s < 4294967296 → csteps k s < 4294967296 := by
  intro k
  induction k with
  | zero => intro s h; exact h
  | succ k ih => intro s h; exact ih (cstep_lt h)
theorem csteps_succ (k s : Nat) : csteps (k + 1) s = csteps k (cstep s) := rfl
theorem csteps_last : ∀ (k s : Nat), csteps (k + 1) s = cstep (csteps k s) := by
  intro k
  induction k with
  | zero => intro s; rfl
  | succ k ih => intro s; exact ih (cstep s)
theorem cbyte_lt {s : Nat} (b : UInt8) (h : s < 4294967296) : cbyte s b < 4294967296 :=
  csteps_lt 8 (xor_lt32 h (by have := b.toNat_lt; omega))
theorem crcGo_lt : ∀ (bs : List UInt8) {s : Nat}, s < 4294967296 → crcGo s bs < 4294967296 := by
  intro bs
  induction bs with
  | nil => intro s h; exact h
  | cons b r ih => intro s h; exact ih (cbyte_lt b h)
theorem crc_lt (bs : List UInt8) : crc bs < 4294967296 := xor_lt32 (crcGo_lt bs (by decide)) (by decide)
theorem crcGo_append (s : Nat) (a b : List UInt8) : crcGo s (a ++ b) = crcGo (crcGo s a) b := List.foldl_append

/-! ### The step is linear -/
theorem xor_div2 (a b : Nat) : (a ^^^ b) / 2 = (a / 2) ^^^ (b / 2) := by
  have := Nat.xor_div_two (a := a) (b := b)
  exact this
theorem xor_mod2 (a b : Nat) : (a ^^^ b) % 2 = (a % 2 + b % 2) % 2 := by
  have h := Nat.xor_mod_two_pow (a := a) (b := b) (n := 1)
  have e : (2 : Nat) ^ 1 = 2 := rfl
  rw [e] at h
  rw [h]
  rcases Nat.mod_two_eq_zero_or_one a with ha | ha <;> rcases Nat.mod_two_eq_zero_or_one b with hb | hb <;> rw [ha, hb] <;> rfl
theorem cstep_xor (a b : Nat) : cstep (a ^^^ b) = cstep a ^^^ cstep b := by
  unfold cstep
  rw [xor_div2, xor_mod2]
  rcases Nat.mod_two_eq_zero_or_one a with ha | ha <;> rcases Nat.mod_two_eq_zero_or_one b with hb | hb <;> simp [ha, hb]
  · rw [Nat.xor_assoc]
  · rw [Nat.xor_assoc, Nat.xor_assoc]; congr 1; exact Nat.xor_comm _ _
  · rw [Nat.xor_assoc, Nat.xor_comm 2197175160, Nat.xor_assoc (b / 2), Nat.xor_self, Nat.xor_zero]

theorem csteps_xor : ∀ (k a b : Nat), csteps k (a ^^^ b) = csteps k a ^^^ csteps k b := by
  intro k
  induction k with
  | zero => intro a b; rfl
  | succ k ih => intro a b; rw [csteps_succ, cstep_xor, ih]; rfl
theorem csteps_add : ∀ (j k s : Nat), csteps (j + k) s = csteps k (csteps j s) := by
  intro j
  induction j with
  | zero => intro k s; rw [Nat.zero_add]; rfl
  | succ j ih => intro k s; rw [Nat.add_right_comm, csteps_succ, ih]; rfl
theorem csteps_shift : ∀ (p w : Nat), csteps p (2 ^ p * w) = w := by
  intro p
  induction p with
  | zero => intro w; simp [csteps]
  | succ p ih =>
    intro w
    have h1 : 2 ^ (p + 1) * w = 2 * (2 ^ p * w) := by rw [Nat.pow_succ, Nat.mul_comm (2 ^ p) 2, Nat.mul_assoc]
    have : cstep (2 ^ (p + 1) * w) = 2 ^ p * w := by
      rw [h1]
      unfold cstep
      rw [if_neg (by omega)]
      omega
    rw [csteps_succ, this, ih]
/-- The step loses nothing of a register. -/
theorem cstep_ne {s : Nat} (h : s < 4294967296) (h0 : s ≠ 0) : cstep s ≠ 0 := by
  unfold cstep
  split
  · intro hx
    have : s / 2 = 2197175160 := by
      have h1 := congrArg (fun y => y ^^^ 2197175160) hx
      simp only [Nat.xor_assoc, Nat.xor_self, Nat.xor_zero, Nat.zero_xor] at h1
      exact h1
    omega
  · omega
theorem csteps_ne : ∀ (k : Nat) {s : Nat}, s < 4294967296 → s ≠ 0 → csteps k s ≠ 0 := by
  intro k
  induction k with
  | zero => intro s _ h; exact h
  | succ k ih => intro s h h0; exact ih (cstep_lt h) (cstep_ne h h0)

/-- Bytes as one number, the first byte the lowest. -/
def leN : List UInt8 → Nat
  | [] => 0
  | b :: r => b.toNat + 256 * leN r
theorem or_split (b m : Nat) (h : b < 256) : b + 256 * m = b ^^^ (256 * m) := by
  have h1 := Nat.shiftLeft_add_eq_or_of_lt (i := 8) (a := m) (b := b) (by simpa using h)
  rw [Nat.shiftLeft_eq] at h1
  have e : (2 : Nat) ^ 8 = 256 := by decide
  rw [e] at h1
  have h2 : b ^^^ (256 * m) = (256 * m) ||| b := by
    apply Nat.eq_of_testBit_eq
    intro i
    rw [Nat.testBit_xor, Nat.testBit_or]
    have h3 : (256 * m).testBit i = (decide (8 ≤ i) && m.testBit (i - 8)) := by
      rw [← e]
      exact Nat.testBit_two_pow_mul ..
    by_cases hi : 8 ≤ i
    · have : b.testBit i = false := Nat.testBit_lt_two_pow (Nat.lt_of_lt_of_le h (by rw [← e]; exact Nat.pow_le_pow_right (by decide) hi))
      rw [this]; simp
    · rw [h3]; simp [hi]
  rw [h2, Nat.mul_comm 256, ← h1, Nat.add_comm]
theorem crcGo_num : ∀ (bs : List UInt8) (s : Nat), crcGo s bs = csteps (8 * bs.length) (s ^^^ leN bs) := by
  intro bs
  induction bs with
  | nil => intro s; simp [crcGo, leN, csteps]
  | cons b r ih =>
    intro s
    have h1 : crcGo s (b :: r) = crcGo (cbyte s b) r := rfl
    rw [h1, ih, List.length_cons, show 8 * (r.length + 1) = 8 + 8 * r.length by omega, csteps_add, leN, or_split _ _ b.toNat_lt, ← Nat.xor_assoc, csteps_xor 8]
    congr 2
    have := csteps_shift 8 (leN r)
    have e : (2 : Nat) ^ 8 = 256 := by decide
    rw [e] at this
    exact this.symm

theorem leN_le4 {v : Nat} (h : v < 4294967296) : leN (le4 v) = v := by
  simp only [le4, leN, UInt8.toNat_ofNat']
  omega
theorem le4_length (v : Nat) : (le4 v).length = 4 := rfl
theorem sealB_length (y : List UInt8) : (sealB y).length = y.length + 4 := by simp [sealB, le4]
/-- What is sealed leaves the same in the register, whatever it is. -/
theorem crcGo_sealB (y : List UInt8) : crcGo 4294967295 (sealB y) = csteps 32 4294967295 := by
  rw [sealB, crcGo_append, crcGo_num (le4 (crc y)), le4_length, leN_le4 (crc_lt y)]
  unfold crc
  rw [← Nat.xor_assoc, Nat.xor_self, Nat.zero_xor]
/-- A burst of at most 32 turned bits is found. -/
theorem seal_burst {y t : List UInt8} {p w : Nat} (hlen : t.length = (sealB y).length) (hw0 : w ≠ 0) (hw : w < 4294967296) (hp : p ≤ 8 * t.length) (hx : leN (sealB y) ^^^ leN t = 2 ^ p * w) : sealB (t.take (t.length - 4)) ≠ t := by
  intro ht
  have h1 := crcGo_sealB y
  have h2 := crcGo_sealB (t.take (t.length - 4))
  rw [ht] at h2
  rw [crcGo_num] at h1 h2
  rw [← hlen] at h1
  have h3 : csteps (8 * t.length) (leN (sealB y) ^^^ leN t) = 0 := by
    have e : leN (sealB y) ^^^ leN t = (4294967295 ^^^ leN (sealB y)) ^^^ (4294967295 ^^^ leN t) := by
      rw [Nat.xor_comm 4294967295 (leN (sealB y)), Nat.xor_assoc, ← Nat.xor_assoc 4294967295 4294967295, Nat.xor_self, Nat.zero_xor]
    rw [e, csteps_xor, h1, h2, Nat.xor_self]
  rw [hx, show 8 * t.length = p + (8 * t.length - p) by omega, csteps_add, csteps_shift] at h3
  exact csteps_ne _ hw hw0 h3

end Go.Proofs.YtjkdahpoalnjjaaDoor.VL

/- Layer 2: what the functions on sums and seals compute. -/
-- STEPWISE
-- WK
set_option linter.unusedVariables false
set_option linter.unusedSimpArgs false
set_option maxRecDepth 10000
namespace Go.Proofs.YtjkdahpoalnjjaaDoor.VL
open Go Go.RowKit Go.Lib

theorem iand_u32 {a b : Int} (ha : 0 ≤ a) (hb : 0 ≤ b) (ha' : a ≤ 4294967295) (hb' : b ≤ 4294967295) : iand .u32 a b = ((a.toNat &&& b.toNat : Nat) : Int) := by
  show IntKind.u32.wrap ((BitVec.ofInt 32 a &&& BitVec.ofInt 32 b).toNat : Int) = _
  have h := (BitVec.ofInt 32 a &&& BitVec.ofInt 32 b).isLt
  rw [wu32 (by omega) (by omega), BitVec.toNat_and, ofInt_toNat ha (by omega), ofInt_toNat hb (by omega)]
theorem ixor_u32 {a b : Int} (ha : 0 ≤ a) (hb : 0 ≤ b) (ha' : a ≤ 4294967295) (hb' : b ≤ 4294967295) : ixor .u32 a b = ((a.toNat ^^^ b.toNat : Nat) : Int) := by
  show IntKind.u32.wrap ((BitVec.ofInt 32 a ^^^ BitVec.ofInt 32 b).toNat : Int) = _
  have h := (BitVec.ofInt 32 a ^^^ BitVec.ofInt 32 b).isLt
  rw [wu32 (by omega) (by omega), BitVec.toNat_xor, ofInt_toNat ha (by omega), ofInt_toNat hb (by omega)]
theorem ixor_u8 {a b : Int} (ha : 0 ≤ a) (hb : 0 ≤ b) (ha' : a ≤ 255) (hb' : b ≤ 255) : ixor .u8 a b = ((a.toNat ^^^ b.toNat : Nat) : Int) := by
  show IntKind.u8.wrap ((BitVec.ofInt 8 a ^^^ BitVec.ofInt 8 b).toNat : Int) = _
  have h := (BitVec.ofInt 8 a ^^^ BitVec.ofInt 8 b).isLt
  rw [wu8 (by omega) (by omega), BitVec.toNat_xor, ofInt_toNat ha (by omega), ofInt_toNat hb (by omega)]

/-- The lowest bit, as 32 of them. -/
theorem step_facts {s : Nat} (h : s < 4294967296) : ∃ r r2 r3 : Int, iand .u32 (s : Int) 1 = r ∧ IntKind.u32.wrap (0 - r) = r2 ∧ iand .u32 2197175160 r2 = r3 ∧ ixor .u32 ((s : Int) / 2) r3 = (cstep s : Int) := by
  have h1 : iand .u32 (s : Int) 1 = ((s % 2 : Nat) : Int) := by
    rw [iand_u32 (by omega) (by omega) (by omega) (by omega)]
    show ((s &&& 1 : Nat) : Int) = _
    rw [Nat.and_one_is_mod]
  rcases Nat.mod_two_eq_zero_or_one s with h0 | h0
  · refine ⟨0, 0, 0, by rw [h1, h0]; rfl, by decide, by decide, ?_⟩
    rw [ixor_u32 (by omega) (by omega) (by omega) (by omega)]
    simp only [cstep, h0]
    congr 1
    simp
    omega
  · refine ⟨1, 4294967295, 2197175160, by rw [h1, h0]; rfl, by decide, by decide, ?_⟩
    rw [ixor_u32 (by omega) (by omega) (by omega) (by omega)]
    simp only [cstep, h0, if_true]
    have : ((s : Int) / 2).toNat = s / 2 := by omega
    rw [this]
    rfl
theorem xor_byte {s : Nat} {c : Nat} (h : s < 4294967296) (hc : c < 256) : ixor .u32 (s : Int) (c : Int) = ((s ^^^ c : Nat) : Int) := by
  rw [ixor_u32 (by omega) (by omega) (by omega) (by omega), Int.toNat_natCast, Int.toNat_natCast]
theorem max_u32 : IntKind.max .u32 = 4294967295 := by decide
theorem xor_all {s : Nat} (h : s < 4294967296) : ixor .u32 4294967295 (s : Int) = ((s ^^^ 4294967295 : Nat) : Int) := by
  rw [ixor_u32 (by omega) (by omega) (by omega) (by omega), Int.toNat_natCast, Nat.xor_comm]
  rfl

set_option maxHeartbeats 1000000 in
theorem sum_spec (bs : List UInt8) (hl : bs.length ≤ 1099511627776) (H : List Box) : ASpec Tryd.prog 85 [vB bs] H (Gives (.v (.int .u32 (crc bs))) H) := by
  refine ASpec.enter Tryd.func85 rfl (fun a w => Tryd.call85 a w) Tryd.ntmps85 Tryd.results85 fun base w β hI => ?_
  refine wk wT (wA DrM.mk wT) ?_
  refine AWP.loop (ι := {p : Nat × Nat // p.1 ≤ bs.length ∧ p.2 < 4294967296 ∧ crcGo 4294967295 bs = crcGo p.2 (bs.drop p.1)})
    (fun p => ⟨[(0, vB bs), (3, .v (.int .u32 p.1.2)), (6, vB bs), (7, vi bs.length), (8, vi p.1.1)], H⟩) (fun p => bs.length - p.1.1) ⟨(0, 4294967295), Nat.zero_le _, by decide, rfl⟩ ?_ ?_
  · dsimp only
    exact Coe.kp
  · rintro ⟨⟨i, s⟩, hi, hs, hp⟩
    dsimp only at hi hs hp ⊢
    by_cases hc : (i : Int) < (bs.length : Int)
    · have hg : bs[i]? = some bs[i] := List.getElem?_eq_getElem (by omega)
      have hdr : bs.drop i = bs[i] :: bs.drop (i + 1) := List.drop_eq_getElem_cons (by omega)
      generalize bs[i] = c at hg hdr
      have h256 : c.toNat < 256 := c.toNat_lt
      have hx := xor_byte hs h256
      have hxl : s ^^^ c.toNat < 4294967296 := xor_lt32 hs (by omega)
      refine wk (wA hc (wA hg (wA hx wT))) (wA DrM.mk wT) ?_
      refine AWP.loop (ι := {p : Nat × Nat // p.1 ≤ 8 ∧ p.2 < 4294967296 ∧ csteps (8 - p.1) p.2 = cbyte s c})
        (fun p => ⟨[(0, vB bs), (3, .v (.int .u32 p.1.2)), (6, vB bs), (7, vi bs.length), (8, vi i), (16, vi p.1.1)], H⟩) (fun p => 8 - p.1.1) ⟨(0, s ^^^ c.toNat), Nat.zero_le _, hxl, rfl⟩ ?_ ?_
      · dsimp only
        exact Coe.kp
      · rintro ⟨⟨k, u⟩, hk, hu, hq⟩
        dsimp only at hk hu hq ⊢
        by_cases h8 : (k : Int) < 8
        · obtain ⟨r, r2, r3, e1, e2, e3, e4⟩ := step_facts hu
          refine wk (wA h8 (wA e1 (wA e2 (wA e3 (wA e4 wT))))) (wA DrM.mk wT) ?_
          refine ⟨⟨(k + 1, cstep u), ?_, ?_, ?_⟩, ?_, ?_⟩ <;> dsimp only
          · omega
          · exact cstep_lt hu
          · rw [show 8 - k = (8 - (k + 1)) + 1 by omega, csteps_succ] at hq; exact hq
          · exact Coe.kp
          · omega
        · refine wk (wA h8 wT) (wA DrM.mk wT) ?_
          rw [show 8 - k = 0 by omega, csteps] at hq
          refine ⟨⟨(i + 1, u), ?_, ?_, ?_⟩, ?_, ?_⟩ <;> dsimp only
          · omega
          · exact hu
          · rw [hp, hdr, hq]; rfl
          · exact Coe.kp
          · omega
    · have hxa := xor_all hs
      refine wk (wA hc (wA max_u32 (wA hxa wT))) (wA DrM.mk wT) ?_
      refine wkEnd wT ?_
      rw [List.drop_eq_nil_of_le (by omega)] at hp
      exact Fin.same ⟨by rw [crc, hp]; rfl, rfl⟩

set_option maxHeartbeats 1000000 in
theorem refSum_spec (bs : List UInt8) (hl : bs.length ≤ 1099511627776) (H : List Box) : ASpec Tryd.prog 87 [vB bs] H (Gives (.v (.int .u32 (crc bs))) H) := by
  refine ASpec.enter Tryd.func87 rfl (fun a w => Tryd.call87 a w) Tryd.ntmps87 Tryd.results87 fun base w β hI => ?_
  refine wk wT (wA DrM.mk wT) ?_
  refine AWP.loop (ι := {p : Nat × Nat // p.1 ≤ bs.length ∧ p.2 < 4294967296 ∧ crcGo 4294967295 bs = crcGo p.2 (bs.drop p.1)})
    (fun p => ⟨[(0, vB bs), (3, .v (.int .u32 p.1.2)), (4, vi p.1.1)], H⟩) (fun p => bs.length - p.1.1) ⟨(0, 4294967295), Nat.zero_le _, by decide, rfl⟩ ?_ ?_
  · dsimp only
    exact Coe.kp
  · rintro ⟨⟨i, s⟩, hi, hs, hp⟩
    dsimp only at hi hs hp ⊢
    by_cases hc : (i : Int) < (bs.length : Int)
    · have hg : bs[i]? = some bs[i] := List.getElem?_eq_getElem (by omega)
      have hdr : bs.drop i = bs[i] :: bs.drop (i + 1) := List.drop_eq_getElem_cons (by omega)
      generalize bs[i] = c at hg hdr
      have h256 : c.toNat < 256 := c.toNat_lt
      have hx := xor_byte hs h256
      have hxl : s ^^^ c.toNat < 4294967296 := xor_lt32 hs (by omega)
      refine wk (wA hc (wA hg (wA hx wT))) (wA DrM.mk wT) ?_
      refine AWP.loop (ι := {p : Nat × Nat // p.1 ≤ 8 ∧ p.2 < 4294967296 ∧ csteps (8 - p.1) p.2 = cbyte s c})
        (fun p => ⟨[(0, vB bs), (3, .v (.int .u32 p.1.2)), (4, vi i), (5, vi p.1.1)], H⟩) (fun p => 8 - p.1.1) ⟨(0, s ^^^ c.toNat), Nat.zero_le _, hxl, rfl⟩ ?_ ?_
      · dsimp only
        exact Coe.kp
      · rintro ⟨⟨k, u⟩, hk, hu, hq⟩
        dsimp only at hk hu hq ⊢
        by_cases h8 : (k : Int) < 8
        · rcases Nat.mod_two_eq_zero_or_one u with h0 | h0
          · have hm : (u : Int) % 2 = 0 := by omega
            have hst : cstep u = u / 2 := by simp [cstep, h0]
            refine wk (wA h8 (wA hm wT)) (wA DrM.mk wT) ?_
            refine ⟨⟨(k + 1, cstep u), ?_, ?_, ?_⟩, ?_, ?_⟩ <;> dsimp only
            · omega
            · exact cstep_lt hu
            · rw [show 8 - k = (8 - (k + 1)) + 1 by omega, csteps_succ] at hq; exact hq
            · rw [hst, show ((u / 2 : Nat) : Int) = (u : Int) / 2 by omega]
              exact Coe.kp
            · omega
          · have hm : (u : Int) % 2 = 1 := by omega
            have hst : ixor .u32 ((u : Int) / 2) 2197175160 = (cstep u : Int) := by
              rw [ixor_u32 (by omega) (by omega) (by omega) (by omega), show ((u : Int) / 2).toNat = u / 2 by omega]
              simp only [cstep, h0, if_true]
              rfl
            refine wk (wA h8 (wA hm (wA hst wT))) (wA DrM.mk wT) ?_
            refine ⟨⟨(k + 1, cstep u), ?_, ?_, ?_⟩, ?_, ?_⟩ <;> dsimp only
            · omega
            · exact cstep_lt hu
            · rw [show 8 - k = (8 - (k + 1)) + 1 by omega, csteps_succ] at hq; exact hq
            · exact Coe.kp
            · omega
        · refine wk (wA h8 wT) (wA DrM.mk wT) ?_
          rw [show 8 - k = 0 by omega, csteps] at hq
          refine ⟨⟨(i + 1, u), ?_, ?_, ?_⟩, ?_, ?_⟩ <;> dsimp only
          · omega
          · exact hu
          · rw [hp, hdr, hq]; rfl
          · exact Coe.kp
          · omega
    · have hxa := xor_all hs
      refine wk (wA hc (wA max_u32 (wA hxa wT))) (wA DrM.mk wT) ?_
      refine wkEnd wT ?_
      rw [List.drop_eq_nil_of_le (by omega)] at hp
      exact Fin.same ⟨by rw [crc, hp]; rfl, rfl⟩

end Go.Proofs.YtjkdahpoalnjjaaDoor.VL

/- Layer 2: sums of bytes, in plain numbers. -/
set_option linter.unusedVariables false
set_option linter.unusedSimpArgs false
namespace Go.Proofs.Ytkkhbmpcpilmfaa.VL

/-- One bit of the sum's register. -/
def cstep (s : Nat) : Nat := if s % 2 = 1 then (s / 2) ^^^ 2197175160 else s / 2
def csteps : Nat → Nat → Nat
  | 0, s => s
  | k + 1, s => csteps k (cstep s)
def cbyte (s : Nat) (b : UInt8) : Nat := csteps 8 (s ^^^ b.toNat)
def crcGo (s : Nat) (bs : List UInt8) : Nat := bs.foldl cbyte s
def crc (bs : List UInt8) : Nat := crcGo 4294967295 bs ^^^ 4294967295
def le4 (s : Nat) : List UInt8 := [UInt8.ofNat s, UInt8.ofNat (s / 256), UInt8.ofNat (s / 65536), UInt8.ofNat (s / 16777216)]
def sealB (bs : List UInt8) : List UInt8 := bs ++ le4 (crc bs)

theorem xor_lt32 {a b : Nat} (ha : a < 4294967296) (hb : b < 4294967296) : a ^^^ b < 4294967296 := by
  have e : (2 : Nat) ^ 32 = 4294967296 := by decide
  rw [← e] at *
  exact Nat.xor_lt_two_pow ha hb
theorem cstep_lt {s : Nat} (h : s < 4294967296) : cstep s < 4294967296 := by
  unfold cstep
  split
  · exact xor_lt32 (by omega) (by decide)
  · omega
theorem csteps_lt : ∀ (k : Nat) {s : Nat}, s < 4294967296 → csteps k s < 4294967296 := by
  intro k
  induction k with
  | zero => intro s h; exact h
  | succ k ih => intro s h; exact ih (cstep_lt h)
theorem csteps_succ (k s : Nat) : csteps (k + 1) s = csteps k (cstep s) := rfl
theorem csteps_last : ∀ (k s : Nat), csteps (k + 1) s = cstep (csteps k s) := by
  intro k
  induction k with
  | zero => intro s; rfl
  | succ k ih => intro s; exact ih (cstep s)
theorem cbyte_lt {s : Nat} (b : UInt8) (h : s < 4294967296) : cbyte s b < 4294967296 :=
  csteps_lt 8 (xor_lt32 h (by have := b.toNat_lt; omega))
theorem crcGo_lt : ∀ (bs : List UInt8) {s : Nat}, s < 4294967296 → crcGo s bs < 4294967296 := by
  intro bs
  induction bs with
  | nil => intro s h; exact h
  | cons b r ih => intro s h; exact ih (cbyte_lt b h)
theorem crc_lt (bs : List UInt8) : crc bs < 4294967296 := xor_lt32 (crcGo_lt bs (by decide)) (by decide)
theorem crcGo_append (s : Nat) (a b : List UInt8) : crcGo s (a ++ b) = crcGo (crcGo s a) b := List.foldl_append

/-! ### The step is linear -/
theorem xor_div2 (a b : Nat) : (a ^^^ b) / 2 = (a / 2) ^^^ (b / 2) := by
  have := Nat.xor_div_two (a := a) (b := b)
  exact this
theorem xor_mod2 (a b : Nat) : (a ^^^ b) % 2 = (a % 2 + b % 2) % 2 := by
  have h := Nat.xor_mod_two_pow (a := a) (b := b) (n := 1)
  have e : (2 : Nat) ^ 1 = 2 := rfl
  rw [e] at h
  rw [h]
  rcases Nat.mod_two_eq_zero_or_one a with ha | ha <;> rcases Nat.mod_two_eq_zero_or_one b with hb | hb <;> rw [ha, hb] <;> rfl
theorem cstep_xor (a b : Nat) : cstep (a ^^^ b) = cstep a ^^^ cstep b := by
  unfold cstep
  rw [xor_div2, xor_mod2]
  rcases Nat.mod_two_eq_zero_or_one a with ha | ha <;> rcases Nat.mod_two_eq_zero_or_one b with hb | hb <;> simp [ha, hb]
  · rw [Nat.xor_assoc]
  · rw [Nat.xor_assoc, Nat.xor_assoc]; congr 1; exact Nat.xor_comm _ _
  · rw [Nat.xor_assoc, Nat.xor_comm 2197175160, Nat.xor_assoc (b / 2), Nat.xor_self, Nat.xor_zero]

theorem csteps_xor : ∀ (k a b : Nat), csteps k (a ^^^ b) = csteps k a ^^^ csteps k b := by
  intro k
  induction k with
  | zero => intro a b; rfl
  | succ k ih => intro a b; rw [csteps_succ, cstep_xor, ih]; rfl
theorem csteps_add : ∀ (j k s : Nat), csteps (j + k) s = csteps k (csteps j s) := by
  intro j
  induction j with
  | zero => intro k s; rw [Nat.zero_add]; rfl
  | succ j ih => intro k s; rw [Nat.add_right_comm, csteps_succ, ih]; rfl
theorem csteps_shift : ∀ (p w : Nat), csteps p (2 ^ p * w) = w := by
  intro p
  induction p with
  | zero => intro w; simp [csteps]
  | succ p ih =>
    intro w
    have h1 : 2 ^ (p + 1) * w = 2 * (2 ^ p * w) := by rw [Nat.pow_succ, Nat.mul_comm (2 ^ p) 2, Nat.mul_assoc]
    have : cstep (2 ^ (p + 1) * w) = 2 ^ p * w := by
      rw [h1]
      unfold cstep
      rw [if_neg (by omega)]
      omega
    rw [csteps_succ, this, ih]
/-- The step loses nothing of a register. -/
theorem cstep_ne {s : Nat} (h : s < 4294967296) (h0 : s ≠ 0) : cstep s ≠ 0 := by
  unfold cstep
  split
  · intro hx
    have : s / 2 = 2197175160 := by
      have h1 := congrArg (fun y => y ^^^ 2197175160) hx
      simp only [Nat.xor_assoc, Nat.xor_self, Nat.xor_zero, Nat.zero_xor] at h1
      exact h1
    omega
  · omega
theorem csteps_ne : ∀ (k : Nat) {s : Nat}, s < 4294967296 → s ≠ 0 → csteps k s ≠ 0 := by
  intro k
  induction k with
  | zero => intro s _ h; exact h
  | succ k ih => intro s h h0; exact ih (cstep_lt h) (cstep_ne h h0)

/-- Bytes as one number, the first byte the lowest. -/
def leN : List UInt8 → Nat
  | [] => 0
  | b :: r => b.toNat + 256 * leN r
theorem or_split (b m : Nat) (h : b < 256) : b + 256 * m = b ^^^ (256 * m) := by
  have h1 := Nat.shiftLeft_add_eq_or_of_lt (i := 8) (a := m) (b := b) (by simpa using h)
  rw [Nat.shiftLeft_eq] at h1
  have e : (2 : Nat) ^ 8 = 256 := by decide
  rw [e] at h1
  have h2 : b ^^^ (256 * m) = (256 * m) ||| b := by
    apply Nat.eq_of_testBit_eq
    intro i
    rw [Nat.testBit_xor, Nat.testBit_or]
    have h3 : (256 * m).testBit i = (decide (8 ≤ i) && m.testBit (i - 8)) := by
      rw [← e]
      exact Nat.testBit_two_pow_mul ..
    by_cases hi : 8 ≤ i
    · have : b.testBit i = false := Nat.testBit_lt_two_pow (Nat.lt_of_lt_of_le h (by rw [← e]; exact Nat.pow_le_pow_right (by decide) hi))
      rw [this]; simp
    · rw [h3]; simp [hi]
  rw [h2, Nat.mul_comm 256, ← h1, Nat.add_comm]
theorem crcGo_num : ∀ (bs : List UInt8) (s : Nat), crcGo s bs = csteps (8 * bs.length) (s ^^^ leN bs) := by
  intro bs
  induction bs with
  | nil => intro s; simp [crcGo, leN, csteps]
  | cons b r ih =>
    intro s
    have h1 : crcGo s (b :: r) = crcGo (cbyte s b) r := rfl
    rw [h1, ih, List.length_cons, show 8 * (r.length + 1) = 8 + 8 * r.length by omega, csteps_add, leN, or_split _ _ b.toNat_lt, ← Nat.xor_assoc, csteps_xor 8]
    congr 2
    have := csteps_shift 8 (leN r)
    have e : (2 : Nat) ^ 8 = 256 := by decide
    rw [e] at this
    exact this.symm

theorem leN_le4 {v : Nat} (h : v < 4294967296) : leN (le4 v) = v := by
  simp only [le4, leN, UInt8.toNat_ofNat']
  omega
theorem le4_length (v : Nat) : (le4 v).length = 4 := rfl
theorem sealB_length (y : List UInt8) : (sealB y).length = y.length + 4 := by simp [sealB, le4]
/-- What is sealed leaves the same in the register, whatever it is. -/
theorem crcGo_sealB (y : List UInt8) : crcGo 4294967295 (sealB y) = csteps 32 4294967295 := by
  rw [sealB, crcGo_append, crcGo_num (le4 (crc y)), le4_length, leN_le4 (crc_lt y)]
  unfold crc
  rw [← Nat.xor_assoc, Nat.xor_self, Nat.zero_xor]
/-- A burst of at most 32 turned bits is found. -/
theorem seal_burst {y t : List UInt8} {p w : Nat} (hlen : t.length = (sealB y).length) (hw0 : w ≠ 0) (hw : w < 4294967296) (hp : p ≤ 8 * t.length) (hx : leN (sealB y) ^^^ leN t = 2 ^ p * w) : sealB (t.take (t.length - 4)) ≠ t := by
  intro ht
  have h1 := crcGo_sealB y
  have h2 := crcGo_sealB (t.take (t.length - 4))
  rw [ht] at h2
  rw [crcGo_num] at h1 h2
  rw [← hlen] at h1
  have h3 : csteps (8 * t.length) (leN (sealB y) ^^^ leN t) = 0 := by
    have e : leN (sealB y) ^^^ leN t = (4294967295 ^^^ leN (sealB y)) ^^^ (4294967295 ^^^ leN t) := by
      rw [Nat.xor_comm 4294967295 (leN (sealB y)), Nat.xor_assoc, ← Nat.xor_assoc 4294967295 4294967295, Nat.xor_self, Nat.zero_xor]
    rw [e, csteps_xor, h1, h2, Nat.xor_self]
  rw [hx, show 8 * t.length = p + (8 * t.length - p) by omega, csteps_add, csteps_shift] at h3
  exact csteps_ne _ hw hw0 h3

end Go.Proofs.Ytkkhbmpcpilmfaa.VL

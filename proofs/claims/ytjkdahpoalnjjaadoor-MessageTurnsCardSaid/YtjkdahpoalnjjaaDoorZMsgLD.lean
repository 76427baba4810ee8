/- Layer 20: the law of turned bits, and of frames that are cut short. -/
import Derived.Test.YtjkdahpoalnjjaaDoorZCd
import Derived.Test.YtjkdahpoalnjjaaDoorZMsgLB
import Derived.Test.YtjkdahpoalnjjaaDoorZMsgZC
-- STEPWISE
-- WK
set_option linter.unusedVariables false
set_option linter.unusedSimpArgs false
set_option maxRecDepth 10000
namespace Go.Proofs.YtjkdahpoalnjjaaDoor.VL
open Go Go.RowKit Go.Lib

theorem tkGo_code : ∀ (k i n : Nat) (bs : List UInt8), (tkGo k i n bs).2.2 = 0 ∨ (tkGo k i n bs).2.2 = 2 ∨ (tkGo k i n bs).2.2 = 3 := by
  intro k
  induction k with
  | zero => intro i n bs; exact .inr (.inr rfl)
  | succ k ih =>
    intro i n bs
    cases bs with
    | nil => exact .inr (.inl rfl)
    | cons c r =>
      rw [tkGo]
      split
      · exact ih _ _ _
      · split
        · exact .inr (.inr rfl)
        · exact .inl rfl
theorem tt_code (bs : List UInt8) (most : Int) : (tt bs most).2.2 = 0 ∨ (tt bs most).2.2 = 2 ∨ (tt bs most).2.2 = 3 ∨ (tt bs most).2.2 = 4 := by
  have h : (tk bs).2.2 = 0 ∨ (tk bs).2.2 = 2 ∨ (tk bs).2.2 = 3 := tkGo_code 9 0 0 bs
  unfold tt
  split
  · dsimp only; omega
  · split
    · exact .inr (.inr (.inr rfl))
    · split
      · exact .inr (.inl rfl)
      · exact .inl rfl
theorem frD_code (b cl : List UInt8) : (frD b cl).2 = 0 ∨ (frD b cl).2 = 2 ∨ (frD b cl).2 = 3 ∨ (frD b cl).2 = 4 ∨ (frD b cl).2 = 5 ∨ (frD b cl).2 = 6 := by
  unfold frD
  split
  · unfold opn
    split
    · exact .inr (.inl rfl)
    · split
      · rename_i h1 h2 h3
        unfold opn at h1
        rw [if_neg h2, if_pos h3] at h1
        exact absurd rfl h1
      · exact .inr (.inr (.inr (.inr (.inl rfl))))
  · unfold frD1
    generalize (opn b).1 = x
    split
    · have t1 : ∀ y, (tk y).2.2 = 0 ∨ (tk y).2.2 = 2 ∨ (tk y).2.2 = 3 := tkGo_code 9 0 0
      split
      · have := t1 (x.drop 3); dsimp only; omega
      split
      · have := tt_code (tk (x.drop 3)).2.1 30; dsimp only; omega
      split
      · have := t1 (tt (tk (x.drop 3)).2.1 30).2.1; dsimp only; omega
      split
      · have := tt_code (tk (tt (tk (x.drop 3)).2.1 30).2.1).2.1 30000; dsimp only; omega
      split
      · dsimp only; omega
      split
      · dsimp only; omega
      · dsimp only; omega
    · dsimp only; omega
/-- No frame's inside begins another one's. -/
theorem frIn_free {f g : Fr} (hf : frRight f = true) (hg : frRight g = true) {r : List UInt8} (h : frIn g = frIn f ++ r) : r = [] := by
  have a := frRight_spec hf
  have b := frRight_spec hg
  unfold frIn at h
  simp only [List.append_assoc, List.append_cancel_left_eq] at h
  have e1 := tk_numB f.k (textB f.c ++ (numB f.n ++ (textB f.p ++ r))) (by omega) (by omega)
  rw [← h, tk_numB g.k _ (by omega) (by omega)] at e1
  injection e1 with _ e1
  injection e1 with e1 _
  have e2 := tt_textB f.c (numB f.n ++ (textB f.p ++ r)) 30 (by omega) (by omega)
  rw [← e1, tt_textB g.c _ 30 (by omega) (by omega)] at e2
  injection e2 with _ e2
  injection e2 with e2 _
  have e3 := tk_numB f.n (textB f.p ++ r) (by omega) (by omega)
  rw [← e2, tk_numB g.n _ (by omega) (by omega)] at e3
  injection e3 with _ e3
  injection e3 with e3 _
  have e4 := tt_textB f.p r 30000 (by omega) (by omega)
  have e5 := tt_textB g.p [] 30000 (by omega) (by omega)
  rw [List.append_nil, e3, e4] at e5
  injection e5 with _ e5
  injection e5
theorem frB_cut {f : Fr} (hf : frRight f = true) {k : Nat} (hk : k < (frB f).length) (cl : List UInt8) : (frD ((frB f).take k) cl).2 ≠ 0 := fun h0 => by
  obtain ⟨h1, h2, _⟩ := frD_once h0
  generalize (frD ((frB f).take k) cl).1 = g at h1 h2
  have hl := congrArg List.length h2
  simp only [frB, sealB_length, List.length_take] at hl hk
  have hp : frIn g = (frIn f).take (frIn g).length := by
    have h3 := congrArg (List.take (frIn g).length) h2
    unfold frB sealB at h3
    rw [List.take_left' rfl, List.take_take, List.take_append_of_le_length (by omega), Nat.min_eq_left (by omega)] at h3
    exact h3
  have := frIn_free h1 hf (r := (frIn f).drop (frIn g).length) ((List.take_append_drop (frIn g).length (frIn f)).symm.trans (congrArg (fun z => z ++ (frIn f).drop (frIn g).length) hp.symm))
  have := congrArg List.length this
  simp only [List.length_drop, List.length_nil] at this
  omega
theorem open20_cut {t : Tk} {c : List UInt8} {n : Int} (hr : frRight (frT t c n) = true) {k : Nat} (hk : k < (frB (frT t c n)).length) : ∃ e : Int, open20 ((frB (frT t c n)).take k) c = (tkZ, 0, e) ∧ (e = 2 ∨ e = 3 ∨ e = 4 ∨ e = 5 ∨ e = 6) := by
  have h0 := frB_cut hr hk c
  have h1 := frD_code ((frB (frT t c n)).take k) c
  refine ⟨(frD ((frB (frT t c n)).take k) c).2, ?_, by omega⟩
  unfold open20
  rw [if_pos h0]
theorem open20_burst {f : Fr} {c t : List UInt8} (h : frD t c = (Fr0, 5)) : open20 t c = (tkZ, 0, 5) := by
  unfold open20
  rw [h]
  rfl

set_option maxHeartbeats 8000000 in
theorem messageTurns_spec (t : Tk) (ht : TkIn t) (at_ bits : Int) (ha0 : 0 ≤ at_) (ha1 : at_ ≤ 65535) (hb0 : 0 ≤ bits) (hb1 : bits ≤ 4294967295) (H : List Box) :
    ASpec Tryd.prog 7 [.agg (tkC t), .v (.int .u16 at_), .v (.int .u32 bits)] H (Gives (vb true) H) := by
  have r0 := fun H => refTkRight_spec t ht H
  cases hok : tkOk t with
  | false =>
    rw [hok] at r0
    obtain ⟨k, d, l⟩ := t
    try dsimp only at r0
    refine ASpec.enter Tryd.func7 rfl (fun a w => Tryd.call7 a w) Tryd.ntmps7 Tryd.results7 fun base w β hI => ?_
    refine wk wT (wA alive20_spec (wA r0 (wA DrM.mk wT))) ?_
    refine wkEnd wT ?_
    exact Fin.cut (.v _) ⟨rfl, rfl⟩
  | true =>
  rw [hok] at r0
  have hr : frRight (frT t [119, 101, 115, 116] 5) = true := frT_right hok (by simp) (by simp) (by omega) (by omega)
  have w1 := fun H => wrap_own t hok [119, 101, 115, 116] 5 hr H
  have hbl := frB_length _ hr
  have hb4 : 4 ≤ (frB (frT t [119, 101, 115, 116] 5)).length := by rw [frB, sealB_length]; omega
  have hcut : ∀ k, k < (frB (frT t [119, 101, 115, 116] 5)).length → ∃ e : Int, open20 ((frB (frT t [119, 101, 115, 116] 5)).take k) [119, 101, 115, 116] = (tkZ, 0, e) ∧ (e = 2 ∨ e = 3 ∨ e = 4 ∨ e = 5 ∨ e = 6) := fun k hk => open20_cut hr hk
  have d2 : ∀ H, ASpec Tryd.prog 12 [vB (frB (frT t [119, 101, 115, 116] 5)), vs [119, 101, 115, 116]] H (Gives (tkR3 (t, 5, 0)) H) := fun H => by
    have h := open20_spec (frB (frT t [119, 101, 115, 116] 5)) [119, 101, 115, 116] (frB_le hr) H
    rw [open20_frB hok hr] at h
    exact h
  have hburst : ∀ (y : List UInt8) (p w : Nat), y.length = (frB (frT t [119, 101, 115, 116] 5)).length → w ≠ 0 → w < 4294967296 → p ≤ 8 * y.length → leN y = leN (frB (frT t [119, 101, 115, 116] 5)) ^^^ (2 ^ p * w) → frD y [119, 101, 115, 116] = (Fr0, 5) := fun y p w h1 h2 h3 h4 h5 => by
    have := opn_burst (y := frIn (frT t [119, 101, 115, 116] 5)) h1 h2 h3 h4 h5
    unfold frD
    rw [this]
    rfl
  have d3 : ∀ (y : List UInt8), y.length = (frB (frT t [119, 101, 115, 116] 5)).length → frD y [119, 101, 115, 116] = (Fr0, 5) → ∀ H, ASpec Tryd.prog 12 [vB y, vs [119, 101, 115, 116]] H (Gives (tkR3 (tkZ, 0, 5)) H) := fun y h1 h2 H => by
    have h := open20_spec y [119, 101, 115, 116] (by omega) H
    rw [open20_burst (f := frT t [119, 101, 115, 116] 5) h2] at h
    exact h
  clear hr
  generalize frB (frT t [119, 101, 115, 116] 5) = bs at w1 d2 hbl hb4 hburst d3 hcut
  have hz : ¬ (bs.length : Int) = 0 := by omega
  obtain ⟨m0, hm0⟩ : ∃ m : Nat, at_ % (bs.length : Int) = (m : Int) := ⟨(at_ % (bs.length : Int)).toNat, by
    have := Int.emod_nonneg at_ (show (bs.length : Int) ≠ 0 by omega)
    omega⟩
  have hml : m0 < bs.length := by
    have := Int.emod_lt_of_pos at_ (show 0 < (bs.length : Int) by omega)
    omega
  obtain ⟨q, hq⟩ : ∃ q : Nat, at_ % (8 * (bs.length : Int)) = (q : Int) := ⟨(at_ % (8 * (bs.length : Int))).toNat, by
    have := Int.emod_nonneg at_ (show 8 * (bs.length : Int) ≠ 0 by omega)
    omega⟩
  have hql : q < 8 * bs.length := by
    have := Int.emod_lt_of_pos at_ (show 0 < 8 * (bs.length : Int) by omega)
    omega
  obtain ⟨e, hoe, he⟩ := hcut m0 hml
  clear hcut
  have o1 : ∀ (y : Box) (full : Bool), ASpec Tryd.prog 12 [.sl (H.length + 1) 0 0 m0 1 full, vs [119, 101, 115, 116]] (H ++ [y, ⟨bytesC bs, 0, 0, true⟩]) (Gives (tkR3 (tkZ, 0, e)) (H ++ [y, ⟨bytesC bs, 0, 0, true⟩])) := fun y full => by
    have h := open_lend bs [119, 101, 115, 116] m0 (by omega) (by omega) (by rw [hoe]) (b := H.length + 1) (ro := 0) (gr := true) (full := full) (H := H ++ [y, ⟨bytesC bs, 0, 0, true⟩]) (appAt _ _ 1 rfl)
    rw [hoe] at h
    exact h
  clear hoe
  obtain ⟨B, rfl⟩ := Int.eq_ofNat_of_zero_le hb0
  unfold tkZ at d3 o1
  try dsimp only at d3 o1
  clear hok
  obtain ⟨k, d, l⟩ := t
  try dsimp only at *
  refine ASpec.enter Tryd.func7 rfl (fun a w => Tryd.call7 a w) Tryd.ntmps7 Tryd.results7 fun base w β hI => ?_
  refine wk (wA hz (wA hm0 wT)) (wA alive20_spec (wA r0 (wA w1 (wA o1 (wA DrM.mk wT))))) ?_
  refine AWP.loop (ι := {x : Nat × Nat × List UInt8 × Nat // x.1 ≤ 32 ∧ x.2.1 ≤ x.1 ∧ x.2.2.1.length = bs.length ∧ leN x.2.2.1 = leN bs ^^^ (2 ^ q * x.2.2.2) ∧ x.2.2.2 < 2 ^ x.1 ∧ (x.2.1 = 0 ↔ x.2.2.2 = 0)})
    (fun x => ⟨[(1, .v (.int .u16 at_)), (2, .v (.int .u32 B)), (7, .sl (H.length + 1) 0 0 bs.length 1 false), (11, vi e), (12, vi x.1.2.1), (13, vi x.1.1)], H ++ [⟨[vi k, .lst 3 (dgG d), .lst 5 (dlG l)], 0, 0, false⟩, ⟨bytesC x.1.2.2.1, 0, 0, true⟩, ⟨[vi 0, .lst 3 [], .lst 5 []], 0, 0, false⟩]⟩) (fun x => 32 - x.1.1) ⟨(0, 0, bs, 0), Nat.zero_le _, Nat.zero_le _, rfl, by simp, by simp, by simp⟩ ?_ ?_
  · dsimp only
    exact Coe.kp
  · rintro ⟨⟨i, m, y, w'⟩, hi, hm, htl, hx, hw, hnw⟩
    dsimp only at hi hm htl hx hw hnw ⊢
    by_cases h32 : (i : Int) < 32
    · by_cases hbit : iand .u32 ((B : Int).fdiv (2 ^ i)) 1 = 1
      · by_cases hpl : (q : Int) + (i : Int) < 8 * (bs.length : Int)
        · obtain ⟨a, ha⟩ : ∃ a, a = (q + i) / 8 := ⟨_, rfl⟩
          obtain ⟨j, hj⟩ : ∃ j, j = (q + i) % 8 := ⟨_, rfl⟩
          have hd8 : ((q : Int) + (i : Int)) / 8 = (a : Int) := by omega
          have hm8 : ((q : Int) + (i : Int)) % 8 = (j : Int) := by omega
          have hal : a < y.length := by omega
          have hj8 : j < 8 := by omega
          have hgt : y[a]? = some y[a] := List.getElem?_eq_getElem hal
          generalize y[a] = x at hgt
          have hgc : (bytesC y)[a]? = some (.v (.int .u8 x.toNat)) := by rw [bytesC_get, hgt]; rfl
          have hfl := leN_flip a y x j hgt hj8
          have h2j : 2 ^ j ≤ 2 ^ 7 := Nat.pow_le_pow_right (by decide) (by omega)
          rw [show (2 : Nat) ^ 7 = 128 by decide] at h2j
          have h256 : x.toNat < 256 := x.toNat_lt
          have hxl : x.toNat ^^^ 2 ^ j < 256 := Nat.xor_lt_two_pow (n := 8) h256 (by omega)
          have hcast : ((2 : Int) ^ j) = ((2 ^ j : Nat) : Int) := by rw [Int.natCast_pow]; rfl
          obtain ⟨u, hy⟩ : ∃ u, u = 2 ^ j := ⟨_, rfl⟩
          rw [← hy] at hfl h2j hxl hcast
          have hwj : IntKind.u8.wrap (1 * 2 ^ j) = (u : Int) := by
            rw [Int.one_mul, hcast, wu8 (by omega) (by omega)]
          obtain ⟨z, hz'⟩ : ∃ z, z = x.toNat ^^^ u := ⟨_, rfl⟩
          rw [← hz'] at hfl hxl
          have hxv : ixor .u8 (x.toNat : Int) (u : Int) = (z : Int) := by
            rw [ixor_u8 (by omega) (by omega) (by omega) (by omega), Int.toNat_natCast, Int.toNat_natCast, hz']
          have hsp := splice_byte y a hal (z : Int) (by omega) (by omega)
          rw [Int.toNat_natCast] at hsp
          have hsp : (bytesC y).set a (AV.v (.int .u8 (z : Int))) = bytesC (y.set a (UInt8.ofNat z)) := hsp
          refine wk (wA h32 (wA hq (wA hbit (wA hpl (wA hd8 (wA hm8 (wA hgc (wA hwj (wA hxv (wA hsp wT)))))))))) (wA DrM.mk wT) ?_
          refine ⟨⟨(i + 1, m + 1, y.set a (UInt8.ofNat z), w' ^^^ 2 ^ i), ?_, ?_, ?_, ?_, ?_, ?_⟩, ?_, ?_⟩ <;> dsimp only
          · omega
          · omega
          · rw [List.length_set]; exact htl
          · rw [hfl, hx, mul_xor, ← Nat.pow_add, Nat.xor_assoc, show 8 * a + j = q + i by omega]
          · exact Nat.xor_lt_two_pow (Nat.lt_of_lt_of_le hw (Nat.pow_le_pow_right (by decide) (by omega))) (Nat.pow_lt_pow_right (by decide) (by omega))
          · constructor
            · intro h; omega
            · intro h
              have h' := congrArg (fun v => v ^^^ 2 ^ i) h
              simp only [Nat.xor_assoc, Nat.xor_self, Nat.xor_zero, Nat.zero_xor] at h'
              omega
          · exact Coe.kp
          · omega
        · refine wk (wA h32 (wA hq (wA hbit (wA hpl wT)))) (wA DrM.mk wT) ?_
          refine ⟨⟨(i + 1, m, y, w'), ?_, ?_, htl, hx, ?_, hnw⟩, ?_, ?_⟩ <;> dsimp only
          · omega
          · omega
          · rw [Nat.pow_succ]; omega
          · exact Coe.kp
          · omega
      · refine wk (wA h32 (wA hq (wA hbit wT))) (wA DrM.mk wT) ?_
        refine ⟨⟨(i + 1, m, y, w'), ?_, ?_, htl, hx, ?_, hnw⟩, ?_, ?_⟩ <;> dsimp only
        · omega
        · omega
        · rw [Nat.pow_succ]; omega
        · exact Coe.kp
        · omega
    · have hi32 : i = 32 := by omega
      subst hi32
      rw [show (2 : Nat) ^ 32 = 4294967296 by decide] at hw
      by_cases hm0' : m = 0
      · subst hm0'
        have hw0 := hnw.1 rfl
        subst hw0
        rw [Nat.mul_zero, Nat.xor_zero] at hx
        have := leN_inj y bs htl hx
        subst this
        clear d3 hburst o1 hx hnw hw htl
        rcases he with rfl | rfl | rfl | rfl | rfl
        all_goals
          repeat' (first
            | (refine AWP.seq ?_)
            | (refine AWP.block ?_)
            | (refine AWP.region_k fun Q' hQ' => ?_)
            | (refine AWP.draw_k rfl (by kernel_rfl) fun Q' hQ' => ?_)
            | (with_reducible refine aops.step fun T hT => ?_; simp (disch := omega) only [go_sem, Nat.reduceBEq, Nat.reduceLT, Nat.reduceEqDiff, reduceIte, Nat.reduceAdd, Nat.reduceMul, Nat.reduceSub, Nat.reduceLeDiff, Int.reduceToNat, Int.reducePow, Int.reduceLT, Int.reduceEq, Int.reduceNeg, Nat.reducePow, List.reduceReplicate, Int.reduceLE, h32, viewB, Nat.le_refl, eq_self])
            | (with_reducible refine qops.step fun T hT => ?_; simp (disch := omega) only [go_sem, Nat.reduceBEq, Nat.reduceLT, Nat.reduceEqDiff, reduceIte, Nat.reduceAdd, Nat.reduceMul, Nat.reduceSub, Nat.reduceLeDiff, Int.reduceToNat, Int.reducePow, Int.reduceLT, Int.reduceEq, Int.reduceNeg, Nat.reducePow, List.reduceReplicate, Int.reduceLE, h32, viewB, Nat.le_refl, eq_self])
            | (with_reducible refine aops.nil ?_)
            | (with_reducible refine qops.nil ?_)
            | (with_reducible refine hT _ ?_; clear hT T)
            | (refine AWP.skip ?_; try simp only [AExit.then, AExit.inBlock, reduceIte, Nat.reduceEqDiff])
            | (refine AWP.exit ?_; try simp only [AExit.then, AExit.inBlock, reduceIte, Nat.reduceEqDiff])
            | (refine AWP.ret ?_; try simp only [AExit.then, AExit.inBlock, reduceIte, Nat.reduceEqDiff])
            | (refine AWP.cond rfl (fun h => ?_) (fun h => ?_) <;> (try simp only [decide_eq_true_eq, decide_eq_false_iff_not, Bool.true_eq_false, Bool.false_eq_true] at h) <;> (try contradiction))
            | (refine hQ' _ _ ?_; clear hQ' Q'; try simp only [AExit.then, AExit.inBlock, reduceIte, Nat.reduceEqDiff])
            | (refine hQ' _ ?_; clear hQ' Q'; try simp only [AExit.then, AExit.inBlock, reduceIte, Nat.reduceEqDiff])
            | (with_reducible refine Branch.split (fun h => ?_) (fun h => ?_) <;> (try simp only [decide_eq_true_eq, decide_eq_false_iff_not, Bool.not_true, Bool.not_false, Bool.true_eq_false, Bool.false_eq_true] at h) <;> (try contradiction) <;> (simp (disch := omega) only [go_sem, Nat.reduceBEq, Nat.reduceLT, Nat.reduceEqDiff, reduceIte, Nat.reduceAdd, Nat.reduceMul, Nat.reduceSub, Nat.reduceLeDiff, Int.reduceToNat, Int.reducePow, Int.reduceLT, Int.reduceEq, Int.reduceNeg, Nat.reducePow, List.reduceReplicate, Int.reduceLE, h, h32, viewB, Nat.le_refl, eq_self]))
            | (with_reducible intro h; try simp only [h, go_sem, Nat.reduceBEq, Nat.reduceLT, Nat.reduceEqDiff, reduceIte, Nat.reduceAdd, Nat.reduceMul, Nat.reduceSub, Nat.reduceLeDiff, Int.reduceToNat, Int.reducePow, Int.reduceLT, Int.reduceEq, Int.reduceNeg, Nat.reducePow, List.reduceReplicate, Int.reduceLE, h32, viewB, Nat.le_refl, eq_self])
            | ((first | (with_reducible refine acall.det (d2 _) ?_) | (with_reducible refine qcall.det (d2 _) ?_)); try simp (disch := omega) only [go_sem, Nat.reduceBEq, Nat.reduceLT, Nat.reduceEqDiff, reduceIte, Nat.reduceAdd, Nat.reduceMul, Nat.reduceSub, Nat.reduceLeDiff, Int.reduceToNat, Int.reducePow, Int.reduceLT, Int.reduceEq, Int.reduceNeg, Nat.reducePow, List.reduceReplicate, Int.reduceLE, h32, viewB, Nat.le_refl, eq_self])
            | (with_reducible refine acall.em0 ?_)
            | (with_reducible refine acall.em1 ?_)
            | (with_reducible refine qcall.em0 ?_)
            | (with_reducible refine qcall.em1 ?_)
            | ((first | (with_reducible refine acall.fz0 ?_) | (with_reducible refine acall.fz1 ?_)); simp (disch := omega) only [go_sem, Nat.reduceBEq, Nat.reduceLT, Nat.reduceEqDiff, reduceIte, Nat.reduceAdd, Nat.reduceMul, Nat.reduceSub, Nat.reduceLeDiff, Int.reduceToNat, Int.reducePow, Int.reduceLT, Int.reduceEq, Int.reduceNeg, Nat.reducePow, List.reduceReplicate, Int.reduceLE, h32, viewB, Nat.le_refl, eq_self]))
          refine wkEnd wT ?_
          exact Fin.cut (.v _) ⟨rfl, rfl⟩
      · have hw0 : w' ≠ 0 := fun h => hm0' (hnw.2 h)
        have d4 := d3 y htl (hburst y q w' htl hw0 hw (by omega) hx)
        have hmz : ¬ (m : Int) = 0 := by omega
        have hle : bs.length ≤ y.length := by omega
        clear d2 d3 hburst o1 hx hnw hw
        rcases he with rfl | rfl | rfl | rfl | rfl
        all_goals
          repeat' (first
            | (refine AWP.seq ?_)
            | (refine AWP.block ?_)
            | (refine AWP.region_k fun Q' hQ' => ?_)
            | (refine AWP.draw_k rfl (by kernel_rfl) fun Q' hQ' => ?_)
            | (with_reducible refine aops.step fun T hT => ?_; simp (disch := omega) only [go_sem, Nat.reduceBEq, Nat.reduceLT, Nat.reduceEqDiff, reduceIte, Nat.reduceAdd, Nat.reduceMul, Nat.reduceSub, Nat.reduceLeDiff, Int.reduceToNat, Int.reducePow, Int.reduceLT, Int.reduceEq, Int.reduceNeg, Nat.reducePow, List.reduceReplicate, Int.reduceLE, h32, viewB, hle, hmz, eq_self])
            | (with_reducible refine qops.step fun T hT => ?_; simp (disch := omega) only [go_sem, Nat.reduceBEq, Nat.reduceLT, Nat.reduceEqDiff, reduceIte, Nat.reduceAdd, Nat.reduceMul, Nat.reduceSub, Nat.reduceLeDiff, Int.reduceToNat, Int.reducePow, Int.reduceLT, Int.reduceEq, Int.reduceNeg, Nat.reducePow, List.reduceReplicate, Int.reduceLE, h32, viewB, hle, hmz, eq_self])
            | (with_reducible refine aops.nil ?_)
            | (with_reducible refine qops.nil ?_)
            | (with_reducible refine hT _ ?_; clear hT T)
            | (refine AWP.skip ?_; try simp only [AExit.then, AExit.inBlock, reduceIte, Nat.reduceEqDiff])
            | (refine AWP.exit ?_; try simp only [AExit.then, AExit.inBlock, reduceIte, Nat.reduceEqDiff])
            | (refine AWP.ret ?_; try simp only [AExit.then, AExit.inBlock, reduceIte, Nat.reduceEqDiff])
            | (refine AWP.cond rfl (fun h => ?_) (fun h => ?_) <;> (try simp only [decide_eq_true_eq, decide_eq_false_iff_not, Bool.true_eq_false, Bool.false_eq_true] at h) <;> (try contradiction))
            | (refine hQ' _ _ ?_; clear hQ' Q'; try simp only [AExit.then, AExit.inBlock, reduceIte, Nat.reduceEqDiff])
            | (refine hQ' _ ?_; clear hQ' Q'; try simp only [AExit.then, AExit.inBlock, reduceIte, Nat.reduceEqDiff])
            | (with_reducible refine Branch.split (fun h => ?_) (fun h => ?_) <;> (try simp only [decide_eq_true_eq, decide_eq_false_iff_not, Bool.not_true, Bool.not_false, Bool.true_eq_false, Bool.false_eq_true] at h) <;> (try contradiction) <;> (simp (disch := omega) only [go_sem, Nat.reduceBEq, Nat.reduceLT, Nat.reduceEqDiff, reduceIte, Nat.reduceAdd, Nat.reduceMul, Nat.reduceSub, Nat.reduceLeDiff, Int.reduceToNat, Int.reducePow, Int.reduceLT, Int.reduceEq, Int.reduceNeg, Nat.reducePow, List.reduceReplicate, Int.reduceLE, h, h32, viewB, hle, hmz, eq_self]))
            | (with_reducible intro h; try simp only [h, go_sem, Nat.reduceBEq, Nat.reduceLT, Nat.reduceEqDiff, reduceIte, Nat.reduceAdd, Nat.reduceMul, Nat.reduceSub, Nat.reduceLeDiff, Int.reduceToNat, Int.reducePow, Int.reduceLT, Int.reduceEq, Int.reduceNeg, Nat.reducePow, List.reduceReplicate, Int.reduceLE, h32, viewB, hle, hmz, eq_self])
            | ((first | (with_reducible refine acall.det (d4 _) ?_) | (with_reducible refine qcall.det (d4 _) ?_)); try simp (disch := omega) only [go_sem, Nat.reduceBEq, Nat.reduceLT, Nat.reduceEqDiff, reduceIte, Nat.reduceAdd, Nat.reduceMul, Nat.reduceSub, Nat.reduceLeDiff, Int.reduceToNat, Int.reducePow, Int.reduceLT, Int.reduceEq, Int.reduceNeg, Nat.reducePow, List.reduceReplicate, Int.reduceLE, h32, viewB, hle, hmz, eq_self])
            | (with_reducible refine acall.em0 ?_)
            | (with_reducible refine acall.em1 ?_)
            | (with_reducible refine qcall.em0 ?_)
            | (with_reducible refine qcall.em1 ?_)
            | ((first | (with_reducible refine acall.fz0 ?_) | (with_reducible refine acall.fz1 ?_)); simp (disch := omega) only [go_sem, Nat.reduceBEq, Nat.reduceLT, Nat.reduceEqDiff, reduceIte, Nat.reduceAdd, Nat.reduceMul, Nat.reduceSub, Nat.reduceLeDiff, Int.reduceToNat, Int.reducePow, Int.reduceLT, Int.reduceEq, Int.reduceNeg, Nat.reducePow, List.reduceReplicate, Int.reduceLE, h32, viewB, hle, hmz, eq_self]))
          refine wkEnd wT ?_
          exact Fin.cut (.v _) ⟨rfl, rfl⟩

end Go.Proofs.YtjkdahpoalnjjaaDoor.VL

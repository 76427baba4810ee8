/- Layer 20: the program's reader of payloads: a number, a text, how many; a wrong one panics. -/
import Derived.Test.YtjkdahpoalnjjaaDoorZCd
import Derived.Test.YtjkdahpoalnjjaaDoorZMsgO
import Derived.Test.YtjkdahpoalnjjaaDoorZFrameB
-- STEPWISE
-- WK
-- PAN
set_option linter.unusedVariables false
set_option linter.unusedSimpArgs false
set_option maxRecDepth 10000
namespace Go.Proofs.YtjkdahpoalnjjaaDoor.VL
open Go Go.RowKit Go.Lib

abbrev wrongV (e : Int) : AV := .v (.iface 90 (.agg #[.int .i64 e]))
abbrev Pans (e : Int) (H : List Box) : Out → List Box → Prop := fun o H' => o = .pan (wrongV e) ∧ H' = H
/-- A reader's box. -/
abbrev mrX (bs : List UInt8) : Box := ⟨[vB bs], 0, 0, false⟩
abbrev Reads (r : AV) (b : Nat) (bs : List UInt8) (H : List Box) : Out → List Box → Prop := fun o H' => o = .ret r ∧ H' = H.set b (mrX bs)

theorem tookInt_ok (n : Int) (r bs : List UInt8) (b : Nat) (H : List Box) (hb : H[b]? = some (mrX bs)) : ASpec Tryd.prog 95 [.ptr b 0 0, vi n, vB r, vi 0] H (Reads (vi n) b r H) := by
  have hset := set_same hb
  refine ASpec.enter Tryd.func95 rfl (fun a w => Tryd.call95 a w) Tryd.ntmps95 Tryd.results95 fun base w β hI => ?_
  refine wk (wA hb (wA hset wT)) (wA DrM.mk wT) ?_
  refine wkEnd wT ?_
  exact ⟨_, _, Shed.refl _ _ _, rfl, rfl⟩
theorem tookInt_err (n e : Int) (x : AV) (he : ¬ e = 0) (b : Nat) (H : List Box) : ASpec Tryd.prog 95 [.ptr b 0 0, vi n, x, vi e] H (Pans e H) := by
  refine ASpec.enter Tryd.func95 rfl (fun a w => Tryd.call95 a w) Tryd.ntmps95 Tryd.results95 fun base w β hI => ?_
  refine wk (wA he wT) (wA DrM.mk wT) ?_
  refine wkEnd wT ?_
  exact ⟨_, _, Shed.refl _ _ _, rfl, rfl⟩
theorem tookStr_ok (n r bs : List UInt8) (b : Nat) (H : List Box) (hb : H[b]? = some (mrX bs)) : ASpec Tryd.prog 96 [.ptr b 0 0, vs n, vB r, vi 0] H (Reads (vs n) b r H) := by
  have hset := set_same hb
  refine ASpec.enter Tryd.func96 rfl (fun a w => Tryd.call96 a w) Tryd.ntmps96 Tryd.results96 fun base w β hI => ?_
  refine wk (wA hb (wA hset wT)) (wA DrM.mk wT) ?_
  refine wkEnd wT ?_
  exact ⟨_, _, Shed.refl _ _ _, rfl, rfl⟩
theorem tookStr_err (n : List UInt8) (e : Int) (x : AV) (he : ¬ e = 0) (b : Nat) (H : List Box) : ASpec Tryd.prog 96 [.ptr b 0 0, vs n, x, vi e] H (Pans e H) := by
  refine ASpec.enter Tryd.func96 rfl (fun a w => Tryd.call96 a w) Tryd.ntmps96 Tryd.results96 fun base w β hI => ?_
  refine wk (wA he wT) (wA DrM.mk wT) ?_
  refine wkEnd wT ?_
  exact ⟨_, _, Shed.refl _ _ _, rfl, rfl⟩
theorem mrNum_ok (bs : List UInt8) (hl : bs.length ≤ 1099511627776) (h0 : (tk bs).2.2 = 0) (b : Nat) (H : List Box) (hb : H[b]? = some (mrX bs)) : ASpec Tryd.prog 76 [.ptr b 0 0] H (Reads (vi (tk bs).1) b (tk bs).2.1 H) := by
  have hsp := fun H => take_spec bs hl H
  generalize tk bs = x at hsp h0 ⊢
  obtain ⟨n, r, e⟩ := x
  dsimp only at hsp h0 ⊢
  subst h0
  have h1 := tookInt_ok n r bs b H hb
  unfold tkV at hsp
  dsimp only at hsp
  simp only [if_true] at hsp
  refine ASpec.enter Tryd.func76 rfl (fun a w => Tryd.call76 a w) Tryd.ntmps76 Tryd.results76 fun base w β hI => ?_
  refine wk (wA hb wT) (wA hsp (wA h1 (wA DrM.mk wT))) ?_
  refine wkEnd wT ?_
  exact ⟨_, _, Shed.refl _ _ _, rfl, rfl⟩
theorem mrNum_err (bs : List UInt8) (hl : bs.length ≤ 1099511627776) (h0 : ¬ (tk bs).2.2 = 0) (b : Nat) (H : List Box) (hb : H[b]? = some (mrX bs)) : ASpec Tryd.prog 76 [.ptr b 0 0] H (Pans (tk bs).2.2 H) := by
  have hsp := fun H => take_spec bs hl H
  generalize tk bs = x at hsp h0 ⊢
  obtain ⟨n, r, e⟩ := x
  dsimp only at hsp h0 ⊢
  have h1 := tookInt_err n e .emp h0 b H
  unfold tkV at hsp
  dsimp only at hsp
  simp only [if_neg h0] at hsp
  refine ASpec.enter Tryd.func76 rfl (fun a w => Tryd.call76 a w) Tryd.ntmps76 Tryd.results76 fun base w β hI => ?_
  refine wk (wA hb wT) (wA hsp (wA h1 (wA DrM.mk wT))) ?_
  refine wkEnd wT ?_
  exact ⟨_, _, Shed.refl _ _ _, rfl, rfl⟩
theorem mrText_ok (bs : List UInt8) (hl : bs.length ≤ 1099511627776) (h0 : (tt bs 200).2.2 = 0) (b : Nat) (H : List Box) (hb : H[b]? = some (mrX bs)) : ASpec Tryd.prog 77 [.ptr b 0 0] H (Reads (vs (tt bs 200).1) b (tt bs 200).2.1 H) := by
  have hsp := fun H => takeText_spec bs 200 hl H
  generalize tt bs 200 = x at hsp h0 ⊢
  obtain ⟨n, r, e⟩ := x
  dsimp only at hsp h0 ⊢
  subst h0
  have h1 := tookStr_ok n r bs b H hb
  unfold ttV at hsp
  dsimp only at hsp
  simp only [if_true] at hsp
  refine ASpec.enter Tryd.func77 rfl (fun a w => Tryd.call77 a w) Tryd.ntmps77 Tryd.results77 fun base w β hI => ?_
  refine wk (wA hb wT) (wA hsp (wA h1 (wA DrM.mk wT))) ?_
  refine wkEnd wT ?_
  exact ⟨_, _, Shed.refl _ _ _, rfl, rfl⟩
theorem mrText_err (bs : List UInt8) (hl : bs.length ≤ 1099511627776) (h0 : ¬ (tt bs 200).2.2 = 0) (b : Nat) (H : List Box) (hb : H[b]? = some (mrX bs)) : ASpec Tryd.prog 77 [.ptr b 0 0] H (Pans (tt bs 200).2.2 H) := by
  have hsp := fun H => takeText_spec bs 200 hl H
  generalize tt bs 200 = x at hsp h0 ⊢
  obtain ⟨n, r, e⟩ := x
  dsimp only at hsp h0 ⊢
  have h1 := tookStr_err n e .emp h0 b H
  unfold ttV at hsp
  dsimp only at hsp
  simp only [if_neg h0] at hsp
  refine ASpec.enter Tryd.func77 rfl (fun a w => Tryd.call77 a w) Tryd.ntmps77 Tryd.results77 fun base w β hI => ?_
  refine wk (wA hb wT) (wA hsp (wA h1 (wA DrM.mk wT))) ?_
  refine wkEnd wT ?_
  exact ⟨_, _, Shed.refl _ _ _, rfl, rfl⟩
theorem mrCount_ok (bs : List UInt8) (hl : bs.length ≤ 1099511627776) (most : Int) (h0 : (tk bs).2.2 = 0) (hm : ¬ most < ((tk bs).1 : Int)) (b : Nat) (H : List Box) (hb : H[b]? = some (mrX bs)) : ASpec Tryd.prog 53 [.ptr b 0 0, vi most] H (Reads (vi (tk bs).1) b (tk bs).2.1 H) := by
  have h1 := mrNum_ok bs hl h0 b H hb
  generalize tk bs = x at h1 hm ⊢
  obtain ⟨n, r, e⟩ := x
  dsimp only at h1 hm ⊢
  refine ASpec.enter Tryd.func53 rfl (fun a w => Tryd.call53 a w) Tryd.ntmps53 Tryd.results53 fun base w β hI => ?_
  refine wk (wA hb (wA hm wT)) (wA h1 (wA DrM.mk wT)) ?_
  refine wkEnd wT ?_
  exact ⟨_, _, Shed.refl _ _ _, rfl, rfl⟩
theorem mrCount_long (bs : List UInt8) (hl : bs.length ≤ 1099511627776) (most : Int) (h0 : (tk bs).2.2 = 0) (hm : most < ((tk bs).1 : Int)) (b : Nat) (H : List Box) (hb : H[b]? = some (mrX bs)) : ASpec Tryd.prog 53 [.ptr b 0 0, vi most] H (fun o H' => o = .pan (wrongV 4) ∧ H' = H.set b (mrX (tk bs).2.1)) := by
  have h1 := mrNum_ok bs hl h0 b H hb
  generalize tk bs = x at h1 hm ⊢
  obtain ⟨n, r, e⟩ := x
  dsimp only at h1 hm ⊢
  refine ASpec.enter Tryd.func53 rfl (fun a w => Tryd.call53 a w) Tryd.ntmps53 Tryd.results53 fun base w β hI => ?_
  refine wk (wA hb (wA hm wT)) (wA h1 (wA DrM.mk wT)) ?_
  refine wkEnd wT ?_
  exact ⟨_, _, Shed.refl _ _ _, rfl, rfl⟩
theorem mrCount_err (bs : List UInt8) (hl : bs.length ≤ 1099511627776) (most : Int) (h0 : ¬ (tk bs).2.2 = 0) (b : Nat) (H : List Box) (hb : H[b]? = some (mrX bs)) : ASpec Tryd.prog 53 [.ptr b 0 0, vi most] H (Pans (tk bs).2.2 H) := by
  have h1 := mrNum_err bs hl h0 b H hb
  generalize tk bs = x at h1 ⊢
  refine ASpec.enter Tryd.func53 rfl (fun a w => Tryd.call53 a w) Tryd.ntmps53 Tryd.results53 fun base w β hI => ?_
  refine wk (wA hb wT) (wA h1 (wA DrM.mk wT)) ?_
  refine wkEnd wT ?_
  exact ⟨_, _, Shed.refl _ _ _, rfl, rfl⟩

end Go.Proofs.YtjkdahpoalnjjaaDoor.VL

/- Layer 20: the program's reader of payloads: a digest. -/
-- STEPWISE
-- WK
-- PAN
set_option linter.unusedVariables false
set_option linter.unusedSimpArgs false
set_option maxRecDepth 10000
namespace Go.Proofs.YtjkdahpoalnjjaaDoor.VL
open Go Go.RowKit Go.Lib

/-- What was read and what is left; or what is wrong, and where. -/
abbrev Rd (α : Type) := Except (Int × List UInt8) (α × List UInt8)
def rNum (b : List UInt8) : Rd Int := if (tk b).2.2 = 0 then .ok ((tk b).1, (tk b).2.1) else .error ((tk b).2.2, b)
def rText (b : List UInt8) : Rd (List UInt8) := if (tt b 200).2.2 = 0 then .ok ((tt b 200).1, (tt b 200).2.1) else .error ((tt b 200).2.2, b)
def rCount (most : Int) (b : List UInt8) : Rd Int := match rNum b with
  | .error e => .error e
  | .ok (n, r) => if most < n then .error (4, r) else .ok (n, r)
def rDg (b : List UInt8) : Rd Dg := match rNum b with
  | .error e => .error e
  | .ok (n, r) => match rNum r with
    | .error e => .error e
    | .ok (g, r) => match rNum r with
      | .error e => .error e
      | .ok (v, r) => .ok (⟨n, g, v⟩, r)
/-- A heap whose reader stands at these bytes. -/
def rdH (H : List Box) (b : Nat) (bs : List UInt8) : List Box := H.set b (mrX bs)
theorem rdH_self {H : List Box} {b : Nat} {bs : List UInt8} (h : H[b]? = some (mrX bs)) : rdH H b bs = H := by
  have hb := (List.getElem?_eq_some_iff.1 h).1
  refine List.ext_getElem? fun i => ?_
  unfold rdH
  rw [List.getElem?_set]
  split
  · rename_i hi; subst hi; exact h.symm
  · rfl
theorem rdH_len (H : List Box) (b : Nat) (bs : List UInt8) : (rdH H b bs).length = H.length := List.length_set
theorem rdH_get {H : List Box} {b : Nat} (hb : b < H.length) (bs : List UInt8) (N : List Box) : (rdH H b bs ++ N)[b]? = some (mrX bs) := by
  rw [List.getElem?_append_left (by rw [rdH_len]; exact hb)]
  exact List.getElem?_set_self hb
theorem rdH_set {H : List Box} {b : Nat} (hb : b < H.length) (bs r : List UInt8) (N : List Box) : (rdH H b bs ++ N).set b (mrX r) = rdH H b r ++ N := by
  rw [List.set_append_left _ _ (by rw [rdH_len]; exact hb)]
  unfold rdH
  rw [List.set_set]
/-- What a reading function answers. -/
abbrev RdP {α : Type} (V : α → AV) (x : Rd α) (G : List UInt8 → List Box) : Out → List Box → Prop := fun o H' => match x with
  | .ok p => o = .ret (V p.1) ∧ H' = G p.2
  | .error e => o = .pan (wrongV e.1) ∧ H' = G e.2
theorem mrNum_spec {H : List Box} {b : Nat} (hb : b < H.length) (bs : List UInt8) (hl : bs.length ≤ 1099511627776) (N : List Box) : ASpec Tryd.prog 76 [.ptr b 0 0] (rdH H b bs ++ N) (RdP vi (rNum bs) fun r => rdH H b r ++ N) := by
  have hg := rdH_get hb bs N
  unfold rNum
  by_cases h0 : (tk bs).2.2 = 0
  · have h := mrNum_ok bs hl h0 b _ hg
    unfold Reads at h
    rw [rdH_set hb] at h
    rw [if_pos h0]
    exact h
  · have h := mrNum_err bs hl h0 b _ hg
    rw [if_neg h0]
    exact h
theorem mrText_spec {H : List Box} {b : Nat} (hb : b < H.length) (bs : List UInt8) (hl : bs.length ≤ 1099511627776) (N : List Box) : ASpec Tryd.prog 77 [.ptr b 0 0] (rdH H b bs ++ N) (RdP vs (rText bs) fun r => rdH H b r ++ N) := by
  have hg := rdH_get hb bs N
  unfold rText
  by_cases h0 : (tt bs 200).2.2 = 0
  · have h := mrText_ok bs hl h0 b _ hg
    unfold Reads at h
    rw [rdH_set hb] at h
    rw [if_pos h0]
    exact h
  · have h := mrText_err bs hl h0 b _ hg
    rw [if_neg h0]
    exact h
theorem mrCount_spec {H : List Box} {b : Nat} (hb : b < H.length) (most : Int) (bs : List UInt8) (hl : bs.length ≤ 1099511627776) (N : List Box) : ASpec Tryd.prog 53 [.ptr b 0 0, vi most] (rdH H b bs ++ N) (RdP vi (rCount most bs) fun r => rdH H b r ++ N) := by
  have hg := rdH_get hb bs N
  unfold rCount rNum
  by_cases h0 : (tk bs).2.2 = 0
  · rw [if_pos h0]
    dsimp only
    by_cases hm : most < ((tk bs).1 : Int)
    · have h := mrCount_long bs hl most h0 hm b _ hg
      rw [rdH_set hb] at h
      rw [if_pos hm]
      exact h
    · have h := mrCount_ok bs hl most h0 hm b _ hg
      unfold Reads at h
      rw [rdH_set hb] at h
      rw [if_neg hm]
      exact h
  · have h := mrCount_err bs hl most h0 b _ hg
    rw [if_neg h0]
    exact h
theorem rNum_len {b : List UInt8} {p : Int × List UInt8} (h : rNum b = .ok p) : p.2.length ≤ b.length := by
  unfold rNum at h
  split at h
  · injection h with h; subst h; exact (tkGo_facts 9 0 0 b).1
  · cases h
theorem rdH_at (H : List Box) (b : Nat) (bs r : List UInt8) (x : Box) (N : List Box) : (rdH H b r ++ x :: N)[(rdH H b bs).length]? = some x := by
  rw [List.getElem?_append_right (by rw [rdH_len, rdH_len]; exact Nat.le_refl _), rdH_len, rdH_len, Nat.sub_self]; rfl
theorem rdH_put (H : List Box) (b : Nat) (bs r : List UInt8) (x y : Box) (N : List Box) : (rdH H b r ++ x :: N).set (rdH H b bs).length y = rdH H b r ++ y :: N := by
  rw [List.set_append_right _ _ (by rw [rdH_len, rdH_len]; exact Nat.le_refl _), rdH_len, rdH_len, Nat.sub_self]; rfl
theorem lt_mrX {n : Nat} (b : List UInt8) : ∀ (j : Nat) (c : AV), (mrX b).cells[j]? = some c → Lt n c := fun j c hj => by
  rcases j with _ | j <;> simp at hj
  subst hj
  exact lt_bytes _
theorem fin_rd {E : Ent} {H : List Box} {b : Nat} {bs r : List UInt8} {N : List Box} {v : AV} {K : AV → List Box → Prop} (hb : b < H.length) (hE : E.H = rdH H b bs) (hv : Lt E.H.length v) (h : K v (rdH H b r)) : Fin E v (rdH H b r ++ N) K :=
  Fin.cutG (by rw [hE, rdH_len, rdH_len]) (by
    have he : rdH H b r = (E.H).set b (mrX r) := by rw [hE]; have := rdH_set hb bs r []; rw [List.append_nil, List.append_nil] at this; exact this.symm
    rw [he]
    exact (Ent.ltH E).set (lt_mrX r)) hv h

set_option maxHeartbeats 1000000 in
theorem mrDigest_spec {H : List Box} {b : Nat} (hb : b < H.length) (bs : List UInt8) (hl : bs.length ≤ 1099511627776) : ASpec Tryd.prog 54 [.ptr b 0 0] (rdH H b bs) (RdP (fun d => .agg (dgC d)) (rDg bs) fun r => rdH H b r) := by
  have hat := rdH_at H b bs
  have hput := rdH_put H b bs
  have h1 := fun N => mrNum_spec hb bs hl N
  unfold rDg
  cases e1 : rNum bs with
  | error e =>
    rw [e1] at h1
    dsimp only at h1 ⊢
    refine ASpec.enter Tryd.func54 rfl (fun a w => Tryd.call54 a w) Tryd.ntmps54 Tryd.results54 fun base w β hI => ?_
    refine wk wT (wA h1 (wA DrM.mk wT)) ?_
    refine wkEnd wT ?_
    exact fin_rd hb rfl (.v _) ⟨rfl, rfl⟩
  | ok p =>
    obtain ⟨n, r1⟩ := p
    have l1 := rNum_len e1
    dsimp only at l1
    have h2 := fun N => mrNum_spec hb r1 (by omega) N
    rw [e1] at h1
    dsimp only at h1 ⊢
    cases e2 : rNum r1 with
    | error e =>
      rw [e2] at h2
      dsimp only at h2 ⊢
      refine ASpec.enter Tryd.func54 rfl (fun a w => Tryd.call54 a w) Tryd.ntmps54 Tryd.results54 fun base w β hI => ?_
      refine wk wT (wA h1 (wA h2 (wA DrM.mk wT))) ?_
      refine wkEnd wT ?_
      exact fin_rd hb rfl (.v _) ⟨rfl, rfl⟩
    | ok p =>
      obtain ⟨g, r2⟩ := p
      have l2 := rNum_len e2
      dsimp only at l2
      have h3 := fun N => mrNum_spec hb r2 (by omega) N
      rw [e2] at h2
      dsimp only at h2 ⊢
      cases e3 : rNum r2 with
      | error e =>
        rw [e3] at h3
        dsimp only at h3 ⊢
        refine ASpec.enter Tryd.func54 rfl (fun a w => Tryd.call54 a w) Tryd.ntmps54 Tryd.results54 fun base w β hI => ?_
        refine wk wT (wA h1 (wA h2 (wA h3 (wA DrM.mk wT)))) ?_
        refine wkEnd wT ?_
        exact fin_rd hb rfl (.v _) ⟨rfl, rfl⟩
      | ok p =>
        obtain ⟨v, r3⟩ := p
        rw [e3] at h3
        dsimp only at h3 ⊢
        refine ASpec.enter Tryd.func54 rfl (fun a w => Tryd.call54 a w) Tryd.ntmps54 Tryd.results54 fun base w β hI => ?_
        refine wk (wA hat (wA hput wT)) (wA h1 (wA h2 (wA h3 (wA DrM.mk wT)))) ?_
        refine wkEnd (wA hat wT) ?_
        exact fin_rd hb rfl (.agg _ fun i c hi => by rcases i with _ | _ | _ | i <;> simp at hi <;> subst hi <;> exact .v _) ⟨rfl, rfl⟩

end Go.Proofs.YtjkdahpoalnjjaaDoor.VL

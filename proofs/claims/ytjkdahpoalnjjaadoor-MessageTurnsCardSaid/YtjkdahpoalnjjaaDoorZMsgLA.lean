/- Layer 20: what is laid is read as it was; what is read has just those bytes. -/
import Derived.Test.YtjkdahpoalnjjaaDoorZMsgZB
import Derived.Test.YtjkdahpoalnjjaaDoorZMd
set_option linter.unusedVariables false
set_option linter.unusedSimpArgs false
set_option maxRecDepth 10000
namespace Go.Proofs.YtjkdahpoalnjjaaDoor.VL
open Go Go.RowKit Go.Lib

theorem rNum_numB (n : Int) (r : List UInt8) (h0 : 0 ≤ n) (h1 : n ≤ 4611686018427387904) : rNum (numB n ++ r) = .ok (n, r) := by
  unfold rNum
  rw [tk_numB n r h0 h1, if_pos rfl]
  dsimp only
  rw [Int.toNat_of_nonneg h0]
theorem rNum_inv {b r : List UInt8} {n : Int} (h : rNum b = .ok (n, r)) : b = numB n ++ r ∧ 0 ≤ n ∧ n ≤ 4611686018427387904 := by
  unfold rNum at h
  split at h
  · rename_i h0
    injection h with h
    injection h with h1 h2
    subst h1; subst h2
    have hf : (tk b).1 ≤ 4611686018427387904 := (tkGo_facts 9 0 0 b).2.1
    exact ⟨by rw [numB_natI _ hf]; exact tk_once h0, by omega, by omega⟩
  · cases h
theorem rText_textB (s r : List UInt8) (h : s.length ≤ 200) : rText (textB s ++ r) = .ok (s, r) := by
  unfold rText
  rw [tt_textB s r 200 (by omega) (by omega), if_pos rfl]
theorem rText_inv {b r s : List UInt8} (h : rText b = .ok (s, r)) : b = textB s ++ r ∧ s.length ≤ 200 := by
  unfold rText at h
  split at h
  · rename_i h0
    injection h with h
    injection h with h1 h2
    subst h1; subst h2
    have := tt_once h0
    exact ⟨this.1, by omega⟩
  · cases h
theorem rCount_numB (m n : Int) (r : List UInt8) (h0 : 0 ≤ n) (h1 : n ≤ 4611686018427387904) (hm : n ≤ m) : rCount m (numB n ++ r) = .ok (n, r) := by
  unfold rCount
  rw [rNum_numB n r h0 h1]
  dsimp only
  rw [if_neg (by omega)]
theorem rCount_inv {b r : List UInt8} {m n : Int} (h : rCount m b = .ok (n, r)) : b = numB n ++ r ∧ 0 ≤ n ∧ n ≤ m := by
  unfold rCount at h
  cases e : rNum b with
  | error e' => rw [e] at h; cases h
  | ok p =>
    obtain ⟨x, q⟩ := p
    rw [e] at h
    dsimp only at h
    split at h
    · cases h
    · injection h with h
      injection h with h1 h2
      subst h1; subst h2
      have := rNum_inv e
      exact ⟨this.1, this.2.1, by omega⟩
/-- A reading of what is laid. -/
structure Lay {α : Type} (f : List UInt8 → Rd α) (B : α → List UInt8) (P : α → Prop) : Prop where
  to : ∀ x r, P x → f (B x ++ r) = .ok (x, r)
  inv : ∀ b x r, f b = .ok (x, r) → b = B x ++ r
theorem layMany {α : Type} {f : List UInt8 → Rd α} {B : α → List UInt8} {P : α → Prop} (h : Lay f B P) : ∀ (l : List α) (r : List UInt8), (∀ x ∈ l, P x) → rMany f l.length (l.flatMap B ++ r) = .ok (l, r)
  | [], r, _ => rfl
  | x :: l, r, hp => by
    rw [List.length_cons, rMany, List.flatMap_cons, List.append_assoc, h.to x _ (hp x (by simp))]
    dsimp only
    rw [layMany h l r fun y hy => hp y (by simp [hy])]
theorem layMany_inv {α : Type} {f : List UInt8 → Rd α} {B : α → List UInt8} {P : α → Prop} (h : Lay f B P) : ∀ (n : Nat) (b : List UInt8) (l : List α) (r : List UInt8), rMany f n b = .ok (l, r) → b = l.flatMap B ++ r ∧ l.length = n
  | 0, b, l, r, e => by injection e with e; injection e with e1 e2; subst e1; subst e2; simp
  | n + 1, b, l, r, e => by
    rw [rMany] at e
    cases e1 : f b with
    | error e' => rw [e1] at e; cases e
    | ok p =>
      obtain ⟨x, q⟩ := p
      rw [e1] at e
      dsimp only at e
      cases e2 : rMany f n q with
      | error e' => rw [e2] at e; cases e
      | ok p =>
        obtain ⟨l', q'⟩ := p
        rw [e2] at e
        dsimp only at e
        injection e with e
        injection e with e3 e4
        subst e3; subst e4
        obtain ⟨g1, g2⟩ := layMany_inv h n q l' q' e2
        rw [h.inv _ _ _ e1, g1]
        exact ⟨by simp, by simp [g2]⟩
abbrev NumOk (n : Int) : Prop := 0 ≤ n ∧ n ≤ 4611686018427387904
theorem layDg : Lay rDg dgB (fun x => NumOk x.n ∧ NumOk x.g ∧ NumOk x.v) where
  to x r h := by
    obtain ⟨n, g, v⟩ := x
    obtain ⟨h1, h2, h3⟩ := h
    dsimp only at h1 h2 h3
    simp only [dgB, numsB, List.flatMap_cons, List.flatMap_nil, List.append_nil, List.append_assoc]
    simp only [rDg, rNum_numB n _ h1.1 h1.2, rNum_numB g _ h2.1 h2.2, rNum_numB v _ h3.1 h3.2]
  inv b x r h := by
    unfold rDg at h
    cases e1 : rNum b with
    | error e => rw [e1] at h; cases h
    | ok p =>
      rw [e1] at h
      obtain ⟨n, q⟩ := p
      dsimp only at h
      cases e2 : rNum q with
      | error e => rw [e2] at h; cases h
      | ok p =>
        rw [e2] at h
        obtain ⟨n2, q2⟩ := p
        dsimp only at h
        cases e3 : rNum q2 with
        | error e => rw [e3] at h; cases h
        | ok p =>
          rw [e3] at h
          obtain ⟨n3, q3⟩ := p
          dsimp only at h
          injection h with h
          injection h with h4 h5
          subst h4; subst h5
          rw [(rNum_inv e1).1, (rNum_inv e2).1, (rNum_inv e3).1]
          simp [dgB, numsB]
theorem layEn : Lay rEn enB (fun x => NumOk x.k ∧ NumOk x.v ∧ x.s.length ≤ 200) where
  to x r h := by
    obtain ⟨n, g, v⟩ := x
    obtain ⟨h1, h2, h3⟩ := h
    dsimp only at h1 h2 h3
    have ht := rText_textB v r h3
    unfold textB at ht
    simp only [enB, numsB, List.flatMap_cons, List.flatMap_nil, List.append_nil, List.append_assoc] at ht ⊢
    simp only [rEn, rNum_numB n _ h1.1 h1.2, rNum_numB g _ h2.1 h2.2, ht]
  inv b x r h := by
    unfold rEn at h
    cases e1 : rNum b with
    | error e => rw [e1] at h; cases h
    | ok p =>
      rw [e1] at h
      obtain ⟨n, q⟩ := p
      dsimp only at h
      cases e2 : rNum q with
      | error e => rw [e2] at h; cases h
      | ok p =>
        rw [e2] at h
        obtain ⟨n2, q2⟩ := p
        dsimp only at h
        cases e3 : rText q2 with
        | error e => rw [e3] at h; cases h
        | ok p =>
          rw [e3] at h
          obtain ⟨n3, q3⟩ := p
          dsimp only at h
          injection h with h
          injection h with h4 h5
          subst h4; subst h5
          rw [(rNum_inv e1).1, (rNum_inv e2).1, (rText_inv e3).1]
          simp [enB, numsB, textB]
theorem layDl : Lay rDl dlB (fun d => mayD d = true) where
  to d r h := by
    have h1 := mayD_iff.1 h
    have h2 := stOk_iff.1 h1.2.2.2.2.1
    have hm := tabOk_may h2.2.2.2.2
    have hl := tabOk_len h2.2.2.2.2
    obtain ⟨n, f, g, bt, a⟩ := d
    dsimp only at h1 h2 hm hl
    have ha := layMany layEn a r (fun x hx => by have := mayE_iff.1 (hm x hx); exact ⟨⟨by omega, by omega⟩, ⟨by omega, by omega⟩, by omega⟩)
    simp only [dlB, numsB, List.flatMap_cons, List.flatMap_nil, List.append_nil, List.append_assoc]
    simp only [rDl, rNum_numB n _ h1.1 (by omega), rNum_numB f _ h1.2.2.1 (by omega), rNum_numB g _ (show 0 ≤ g by omega) (by omega), rNum_numB bt _ h2.2.2.1 (by omega), rCount_numB 12 (a.length : Int) _ (by omega) (by omega) (by omega), Int.toNat_natCast, ha]
  inv b x r h := by
    unfold rDl at h
    cases e1 : rNum b with
    | error e => rw [e1] at h; cases h
    | ok p =>
      rw [e1] at h
      obtain ⟨n, q⟩ := p
      dsimp only at h
      cases e2 : rNum q with
      | error e => rw [e2] at h; cases h
      | ok p =>
        rw [e2] at h
        obtain ⟨n2, q2⟩ := p
        dsimp only at h
        cases e3 : rNum q2 with
        | error e => rw [e3] at h; cases h
        | ok p =>
          rw [e3] at h
          obtain ⟨n3, q3⟩ := p
          dsimp only at h
          cases e4 : rNum q3 with
          | error e => rw [e4] at h; cases h
          | ok p =>
            rw [e4] at h
            obtain ⟨n4, q4⟩ := p
            dsimp only at h
            cases e5 : rCount 12 q4 with
            | error e => rw [e5] at h; cases h
            | ok p =>
              rw [e5] at h
              obtain ⟨c, q5⟩ := p
              dsimp only at h
              cases e6 : rMany rEn c.toNat q5 with
              | error e => rw [e6] at h; cases h
              | ok p =>
                rw [e6] at h
                obtain ⟨l, q6⟩ := p
                dsimp only at h
                injection h with h
                injection h with h8 h9
                subst h8; subst h9
                have h5 := rCount_inv e5
                have h6 := layMany_inv layEn _ _ _ _ e6
                have hc : c = (l.length : Int) := by omega
                rw [(rNum_inv e1).1, (rNum_inv e2).1, (rNum_inv e3).1, (rNum_inv e4).1, h5.1, h6.1]
                simp [dlB, numsB, hc]
theorem dgGo_num {last : Int} : ∀ {l : List Dg}, dgGo last l = true → -1 ≤ last → ∀ x ∈ l, NumOk x.n ∧ NumOk x.g ∧ NumOk x.v
  | [], _, _ => by simp
  | d :: l, h, h0 => by
    unfold dgGo at h
    simp only [Bool.and_eq_true, decide_eq_true_eq] at h
    intro x hx
    rcases List.mem_cons.1 hx with rfl | hx
    · exact ⟨⟨by omega, by omega⟩, ⟨by omega, by omega⟩, ⟨by omega, by omega⟩⟩
    · exact dgGo_num h.2.2.2.2.2.2 (by omega) x hx
theorem decT_tB (t : Tk) (h : tkOk t = true) : decT t.k (knows t.k) (tells t.k) (tB t) = (t, 0, []) := by
  have hp := tkOk_parts h
  obtain ⟨k, d, l⟩ := t
  dsimp only at hp ⊢
  have hdl := dgOk_len hp.2.2.2.1
  have hll := dlOk_len hp.2.2.2.2
  have hD : ∀ r, rTkD (knows k) ((if knows k then numB d.length ++ d.flatMap dgB else []) ++ r) = .ok (d, r) := fun r => by
    unfold rTkD
    cases hk : knows k with
    | false =>
      rw [hp.2.1 hk]
      rfl
    | true =>
      simp only [if_true, List.append_assoc]
      rw [rCount_numB 8 (d.length : Int) _ (by omega) (by omega) (by omega)]
      dsimp only
      rw [Int.toNat_natCast]
      exact layMany layDg d r (dgGo_num hp.2.2.2.1 (by omega))
  have hL : rTkL (tells k) (if tells k then numB l.length ++ l.flatMap dlB else []) = .ok (l, []) := by
    unfold rTkL
    cases hk : tells k with
    | false =>
      rw [hp.2.2.1 hk]
      rfl
    | true =>
      simp only [if_true]
      rw [rCount_numB 8 (l.length : Int) _ (by omega) (by omega) (by omega)]
      dsimp only
      rw [Int.toNat_natCast]
      have := layMany layDl l [] (dlGo_may hp.2.2.2.2)
      rw [List.append_nil] at this
      exact this
  unfold decT rTk tB
  dsimp only
  rw [hD]
  dsimp only
  rw [hL]
  dsimp only
  rw [if_neg (by rw [h]; simp)]
theorem dec20_tB (t : Tk) (h : tkOk t = true) : dec20 t.k (tB t) = (t, 0) := by
  have hp := tkOk_parts h
  unfold dec20
  rw [if_pos (show kOk t.k = true from decide_eq_true hp.1), decT_tB t h]
theorem rTkD_inv {kn : Bool} {b r : List UInt8} {d : List Dg} (h : rTkD kn b = .ok (d, r)) : b = (if kn then numB d.length ++ d.flatMap dgB else []) ++ r ∧ (kn = false → d = []) := by
  unfold rTkD at h
  cases kn with
  | false => injection h with h; injection h with h1 h2; subst h1; subst h2; simp
  | true =>
    simp only [if_true] at h ⊢
    cases e5 : rCount 8 b with
    | error e => rw [e5] at h; cases h
    | ok p =>
      rw [e5] at h
      obtain ⟨c, q5⟩ := p
      dsimp only at h
      have h5 := rCount_inv e5
      have h6 := layMany_inv layDg _ _ _ _ h
      have hc : c = (d.length : Int) := by omega
      exact ⟨by rw [h5.1, h6.1, hc]; simp, by simp⟩
theorem rTkL_inv {tl : Bool} {b r : List UInt8} {d : List Dl} (h : rTkL tl b = .ok (d, r)) : b = (if tl then numB d.length ++ d.flatMap dlB else []) ++ r ∧ (tl = false → d = []) := by
  unfold rTkL at h
  cases tl with
  | false => injection h with h; injection h with h1 h2; subst h1; subst h2; simp
  | true =>
    simp only [if_true] at h ⊢
    cases e5 : rCount 8 b with
    | error e => rw [e5] at h; cases h
    | ok p =>
      rw [e5] at h
      obtain ⟨c, q5⟩ := p
      dsimp only at h
      have h5 := rCount_inv e5
      have h6 := layMany_inv layDl _ _ _ _ h
      have hc : c = (d.length : Int) := by omega
      exact ⟨by rw [h5.1, h6.1, hc]; simp, by simp⟩
theorem rNum_er {b : List UInt8} {e : Int × List UInt8} (h : rNum b = .error e) : e.1 ≠ 0 := (mtNum.er _ _ h).1
theorem dec20_z {k : Int} {b : List UInt8} (h : (dec20 k b).2 ≠ 0) : (dec20 k b).1 = tkZ := by
  unfold dec20 at h ⊢
  split at h
  · rename_i hk
    rw [if_pos hk]
    unfold decT at h ⊢
    cases e : rTk k (knows k) (tells k) b with
    | error e' => rfl
    | ok p =>
      rw [e] at h
      dsimp only at h ⊢
      split at h
      · rename_i hc; rw [if_pos hc]
      · exact absurd rfl h
  · rename_i hk; rw [if_neg hk]
theorem dec20_once {k : Int} {b : List UInt8} (h : (dec20 k b).2 = 0) : tkOk (dec20 k b).1 = true ∧ (dec20 k b).1.k = k ∧ tB (dec20 k b).1 = b := by
  unfold dec20 at h ⊢
  split at h
  · rename_i hk
    rw [if_pos hk]
    unfold decT rTk at h ⊢
    cases e1 : rTkD (knows k) b with
    | error e' => rw [e1] at h; exact absurd h ((mtTkD _).er _ _ e1).1
    | ok p =>
      obtain ⟨d, q⟩ := p
      rw [e1] at h
      dsimp only at h ⊢
      cases e2 : rTkL (tells k) q with
      | error e' => rw [e2] at h; exact absurd h ((mtTkL _).er _ _ e2).1
      | ok p =>
        obtain ⟨l, r⟩ := p
        rw [e2] at h
        dsimp only at h ⊢
        split at h
        · cases h
        · rename_i hc
          rw [if_neg hc]
          rw [not_or] at hc
          have hr : r = [] := List.length_eq_zero_iff.1 (by omega)
          subst hr
          dsimp only
          have d1 := rTkD_inv e1
          have d2 := rTkL_inv e2
          refine ⟨by simpa using hc.2, rfl, ?_⟩
          unfold tB
          dsimp only
          rw [d1.1, d2.1, List.append_nil]
  · cases h
theorem dec20_in (k : Int) (b : List UInt8) : TkIn (dec20 k b).1 := by
  by_cases h : (dec20 k b).2 = 0
  · exact tkOk_in (dec20_once h).1
  · rw [dec20_z h]; exact ⟨by decide, by decide, by intro d hd; cases hd⟩

end Go.Proofs.YtjkdahpoalnjjaaDoor.VL

/- Layer 20: both Decodes answer the same; the reference's Open. -/
import Derived.Test.YtjkdahpoalnjjaaDoorZCd
import Derived.Test.YtjkdahpoalnjjaaDoorZMh
import Derived.Test.YtjkdahpoalnjjaaDoorZFrameC
-- STEPWISE
-- WK
-- HOLE 7 0 [(.same, []), (.same, [0]), (.same, [0]), (.wr 0, []), (.same, []), (.same, [])]
set_option linter.unusedVariables false
set_option linter.unusedSimpArgs false
set_option maxRecDepth 10000
namespace Go.Proofs.YtjkdahpoalnjjaaDoor.VL
open Go Go.RowKit Go.Lib

theorem holM_MsgZB_7 : HolM 7 0 [(.same, []), (.same, [0]), (.same, [0]), (.wr 0, []), (.same, []), (.same, [])] := ⟨⟩

/-- A reading that stops where something is wrong, and one that goes on. -/
structure Mt {α : Type} (f : List UInt8 → Rd α) (g : Sx → α × Sx) : Prop where
  ok : ∀ b x r, f b = .ok (x, r) → g (b, 0) = (x, (r, 0))
  er : ∀ b e, f b = .error e → e.1 ≠ 0 ∧ (g (b, 0)).2.2 = e.1
  st : ∀ s, s.2 ≠ 0 → (g s).2.2 = s.2
theorem mtNum : Mt rNum sNum where
  ok b x r h := by
    unfold rNum at h
    split at h
    · rename_i h0
      injection h with h
      injection h with h1 h2
      subst h1; subst h2
      simp [sNum, rs, h0]
    · cases h
  er b e h := by
    unfold rNum at h
    split at h
    · cases h
    · rename_i h0
      injection h with h
      subst h
      exact ⟨h0, by simp [sNum]⟩
  st s h := by simp [sNum, h]
theorem mtText : Mt rText sText where
  ok b x r h := by
    unfold rText at h
    split at h
    · rename_i h0
      injection h with h
      injection h with h1 h2
      subst h1; subst h2
      simp [sText, rs, h0]
    · cases h
  er b e h := by
    unfold rText at h
    split at h
    · cases h
    · rename_i h0
      injection h with h
      subst h
      exact ⟨h0, by simp [sText]⟩
  st s h := by simp [sText, h]
theorem mtCount (m : Int) : Mt (rCount m) (sCount m) where
  ok b x r h := by
    unfold rCount at h
    cases e1 : rNum b with
    | error e => rw [e1] at h; cases h
    | ok p =>
      rw [e1] at h
      obtain ⟨n, q⟩ := p
      have h1 := mtNum.ok _ _ _ e1
      dsimp only at h
      split at h
      · cases h
      · rename_i hm
        injection h with h
        injection h with h2 h3
        subst h2; subst h3
        simp [sCount, h1, hm]
  er b e h := by
    unfold rCount at h
    cases e1 : rNum b with
    | error e' =>
      rw [e1] at h
      injection h with h
      subst h
      have h1 := mtNum.er _ _ e1
      refine ⟨h1.1, ?_⟩
      unfold sCount
      rw [if_neg (by rw [h1.2]; exact h1.1)]
      exact h1.2
    | ok p =>
      rw [e1] at h
      obtain ⟨n, q⟩ := p
      have h1 := mtNum.ok _ _ _ e1
      dsimp only at h
      split at h
      · rename_i hm
        injection h with h
        subst h
        exact ⟨by show (4 : Int) ≠ 0; decide, by simp [sCount, h1, hm]⟩
      · cases h
  st s h := by
    have h1 := mtNum.st s h
    unfold sCount
    rw [if_neg (by rw [h1]; exact h)]
    exact h1
theorem mtDg : Mt rDg sDg where
  ok b x r h := by
    unfold rDg at h
    cases e1 : rNum b with
    | error e => rw [e1] at h; cases h
    | ok p =>
      rw [e1] at h
      obtain ⟨n, q⟩ := p
      have h1 := mtNum.ok _ _ _ e1
      dsimp only at h
      cases e2 : rNum q with
      | error e => rw [e2] at h; cases h
      | ok p =>
        rw [e2] at h
        obtain ⟨n2, q2⟩ := p
        have h2 := mtNum.ok _ _ _ e2
        dsimp only at h
        cases e3 : rNum q2 with
        | error e => rw [e3] at h; cases h
        | ok p =>
          rw [e3] at h
          obtain ⟨n3, q3⟩ := p
          have h3 := mtNum.ok _ _ _ e3
          dsimp only at h
          injection h with h
          injection h with h4 h5
          subst h4; subst h5
          simp [sDg, h1, h2, h3]
  er b e h := by
    unfold rDg at h
    cases e1 : rNum b with
    | error e' =>
      rw [e1] at h
      injection h with h
      subst h
      have h1 := mtNum.er _ _ e1
      refine ⟨h1.1, ?_⟩
      have s1 := mtNum.st (sNum (b, 0)).2 (by rw [h1.2]; exact h1.1)
      have s2 := mtNum.st (sNum (sNum (b, 0)).2).2 (by rw [s1, h1.2]; exact h1.1)
      simp only [sDg]
      rw [s2, s1, h1.2]
    | ok p =>
      rw [e1] at h
      obtain ⟨n, q⟩ := p
      have h1 := mtNum.ok _ _ _ e1
      dsimp only at h
      cases e2 : rNum q with
      | error e' =>
        rw [e2] at h
        injection h with h
        subst h
        have h2 := mtNum.er _ _ e2
        refine ⟨h2.1, ?_⟩
        have s2 := mtNum.st (sNum (q, 0)).2 (by rw [h2.2]; exact h2.1)
        simp only [sDg, h1]
        rw [s2, h2.2]
      | ok p =>
        rw [e2] at h
        obtain ⟨n2, q2⟩ := p
        have h2 := mtNum.ok _ _ _ e2
        dsimp only at h
        cases e3 : rNum q2 with
        | error e' =>
          rw [e3] at h
          injection h with h
          subst h
          have h3 := mtNum.er _ _ e3
          exact ⟨h3.1, by simp only [sDg, h1, h2]; exact h3.2⟩
        | ok p => rw [e3] at h; cases h
  st s h := by
    have s1 := mtNum.st s h
    have s2 := mtNum.st (sNum s).2 (by rw [s1]; exact h)
    have s3 := mtNum.st (sNum (sNum s).2).2 (by rw [s2, s1]; exact h)
    simp only [sDg]
    rw [s3, s2, s1]
theorem mtEn : Mt rEn sEn where
  ok b x r h := by
    unfold rEn at h
    cases e1 : rNum b with
    | error e => rw [e1] at h; cases h
    | ok p =>
      rw [e1] at h
      obtain ⟨n, q⟩ := p
      have h1 := mtNum.ok _ _ _ e1
      dsimp only at h
      cases e2 : rNum q with
      | error e => rw [e2] at h; cases h
      | ok p =>
        rw [e2] at h
        obtain ⟨n2, q2⟩ := p
        have h2 := mtNum.ok _ _ _ e2
        dsimp only at h
        cases e3 : rText q2 with
        | error e => rw [e3] at h; cases h
        | ok p =>
          rw [e3] at h
          obtain ⟨n3, q3⟩ := p
          have h3 := mtText.ok _ _ _ e3
          dsimp only at h
          injection h with h
          injection h with h4 h5
          subst h4; subst h5
          simp [sEn, h1, h2, h3]
  er b e h := by
    unfold rEn at h
    cases e1 : rNum b with
    | error e' =>
      rw [e1] at h
      injection h with h
      subst h
      have h1 := mtNum.er _ _ e1
      refine ⟨h1.1, ?_⟩
      have s1 := mtNum.st (sNum (b, 0)).2 (by rw [h1.2]; exact h1.1)
      have s2 := mtText.st (sNum (sNum (b, 0)).2).2 (by rw [s1, h1.2]; exact h1.1)
      simp only [sEn]
      rw [s2, s1, h1.2]
    | ok p =>
      rw [e1] at h
      obtain ⟨n, q⟩ := p
      have h1 := mtNum.ok _ _ _ e1
      dsimp only at h
      cases e2 : rNum q with
      | error e' =>
        rw [e2] at h
        injection h with h
        subst h
        have h2 := mtNum.er _ _ e2
        refine ⟨h2.1, ?_⟩
        have s2 := mtText.st (sNum (q, 0)).2 (by rw [h2.2]; exact h2.1)
        simp only [sEn, h1]
        rw [s2, h2.2]
      | ok p =>
        rw [e2] at h
        obtain ⟨n2, q2⟩ := p
        have h2 := mtNum.ok _ _ _ e2
        dsimp only at h
        cases e3 : rText q2 with
        | error e' =>
          rw [e3] at h
          injection h with h
          subst h
          have h3 := mtText.er _ _ e3
          exact ⟨h3.1, by simp only [sEn, h1, h2]; exact h3.2⟩
        | ok p => rw [e3] at h; cases h
  st s h := by
    have s1 := mtNum.st s h
    have s2 := mtNum.st (sNum s).2 (by rw [s1]; exact h)
    have s3 := mtText.st (sNum (sNum s).2).2 (by rw [s2, s1]; exact h)
    simp only [sEn]
    rw [s3, s2, s1]
theorem mtMany_st {α : Type} {f : List UInt8 → Rd α} {g : Sx → α × Sx} (m : Mt f g) : ∀ (n : Nat) (s : Sx), s.2 ≠ 0 → (sMany g n s).2.2 = s.2
  | 0, s, h => rfl
  | n + 1, s, h => by
    have h1 := m.st s h
    simp only [sMany]
    rw [mtMany_st m n _ (by rw [h1]; exact h), h1]
theorem mtMany {α : Type} {f : List UInt8 → Rd α} {g : Sx → α × Sx} (m : Mt f g) : ∀ n : Nat, Mt (rMany f n) (sMany g n)
  | 0 => ⟨fun b x r h => by injection h with h; injection h with h1 h2; subst h1; subst h2; rfl, fun b e h => (by cases h), fun s h => rfl⟩
  | n + 1 => {
    ok := fun b x r h => by
      rw [rMany] at h
      cases e1 : f b with
      | error e => rw [e1] at h; cases h
      | ok p =>
        rw [e1] at h
        obtain ⟨y, q⟩ := p
        dsimp only at h
        cases e2 : rMany f n q with
        | error e => rw [e2] at h; cases h
        | ok p =>
          rw [e2] at h
          obtain ⟨l, q2⟩ := p
          dsimp only at h
          injection h with h
          injection h with h4 h5
          subst h4; subst h5
          simp [sMany, m.ok _ _ _ e1, (mtMany m n).ok _ _ _ e2]
    er := fun b e h => by
      rw [rMany] at h
      cases e1 : f b with
      | error e' =>
        rw [e1] at h
        injection h with h
        subst h
        have h1 := m.er _ _ e1
        refine ⟨h1.1, ?_⟩
        simp only [sMany]
        rw [mtMany_st m n _ (by rw [h1.2]; exact h1.1), h1.2]
      | ok p =>
        rw [e1] at h
        obtain ⟨y, q⟩ := p
        dsimp only at h
        cases e2 : rMany f n q with
        | error e' =>
          rw [e2] at h
          injection h with h
          subst h
          have h2 := (mtMany m n).er _ _ e2
          exact ⟨h2.1, by simp only [sMany, m.ok _ _ _ e1]; exact h2.2⟩
        | ok p => rw [e2] at h; cases h
    st := mtMany_st m (n + 1) }
theorem mtDl : Mt rDl sDl where
  ok b x r h := by
    unfold rDl at h
    cases e1 : rNum b with
    | error e => rw [e1] at h; cases h
    | ok p =>
      rw [e1] at h
      obtain ⟨n, q⟩ := p
      have h1 := mtNum.ok _ _ _ e1
      dsimp only at h
      cases e2 : rNum q with
      | error e => rw [e2] at h; cases h
      | ok p =>
        rw [e2] at h
        obtain ⟨n2, q2⟩ := p
        have h2 := mtNum.ok _ _ _ e2
        dsimp only at h
        cases e3 : rNum q2 with
        | error e => rw [e3] at h; cases h
        | ok p =>
          rw [e3] at h
          obtain ⟨n3, q3⟩ := p
          have h3 := mtNum.ok _ _ _ e3
          dsimp only at h
          cases e4 : rNum q3 with
          | error e => rw [e4] at h; cases h
          | ok p =>
            rw [e4] at h
            obtain ⟨n4, q4⟩ := p
            have h4 := mtNum.ok _ _ _ e4
            dsimp only at h
            cases e5 : rCount 12 q4 with
            | error e => rw [e5] at h; cases h
            | ok p =>
              rw [e5] at h
              obtain ⟨c, q5⟩ := p
              have h5 := (mtCount 12).ok _ _ _ e5
              dsimp only at h
              cases e6 : rMany rEn c.toNat q5 with
              | error e => rw [e6] at h; cases h
              | ok p =>
                rw [e6] at h
                obtain ⟨l, q6⟩ := p
                have h6 := (mtMany mtEn c.toNat).ok _ _ _ e6
                dsimp only at h
                injection h with h
                injection h with h8 h9
                subst h8; subst h9
                simp [sDl, sN4, h1, h2, h3, h4, h5, h6]
  er b e h := by
    have C : ∀ s : Sx, s.2 ≠ 0 → (sMany sEn (sCount 12 s).1.toNat (sCount 12 s).2).2.2 = s.2 := fun s hs => by
      have h1 := (mtCount 12).st s hs
      rw [mtMany_st mtEn _ _ (by rw [h1]; exact hs), h1]
    unfold rDl at h
    cases e1 : rNum b with
    | error e' =>
      rw [e1] at h
      injection h with h
      subst h
      have h1 := mtNum.er _ _ e1
      refine ⟨h1.1, ?_⟩
      have s1 := mtNum.st (sNum (b, 0)).2 (by rw [h1.2]; exact h1.1)
      have s2 := mtNum.st (sNum (sNum (b, 0)).2).2 (by rw [s1, h1.2]; exact h1.1)
      have s3 := mtNum.st (sNum (sNum (sNum (b, 0)).2).2).2 (by rw [s2, s1, h1.2]; exact h1.1)
      simp only [sDl, sN4]
      rw [C _ (by rw [s3, s2, s1, h1.2]; exact h1.1), s3, s2, s1, h1.2]
    | ok p =>
      rw [e1] at h
      obtain ⟨n, q⟩ := p
      have h1 := mtNum.ok _ _ _ e1
      dsimp only at h
      cases e2 : rNum q with
      | error e' =>
        rw [e2] at h
        injection h with h
        subst h
        have h2 := mtNum.er _ _ e2
        refine ⟨h2.1, ?_⟩
        have s2 := mtNum.st (sNum (q, 0)).2 (by rw [h2.2]; exact h2.1)
        have s3 := mtNum.st (sNum (sNum (q, 0)).2).2 (by rw [s2, h2.2]; exact h2.1)
        simp only [sDl, sN4, h1]
        rw [C _ (by rw [s3, s2, h2.2]; exact h2.1), s3, s2, h2.2]
      | ok p =>
        rw [e2] at h
        obtain ⟨n2, q2⟩ := p
        have h2 := mtNum.ok _ _ _ e2
        dsimp only at h
        cases e3 : rNum q2 with
        | error e' =>
          rw [e3] at h
          injection h with h
          subst h
          have h3 := mtNum.er _ _ e3
          refine ⟨h3.1, ?_⟩
          have s3 := mtNum.st (sNum (q2, 0)).2 (by rw [h3.2]; exact h3.1)
          simp only [sDl, sN4, h1, h2]
          rw [C _ (by rw [s3, h3.2]; exact h3.1), s3, h3.2]
        | ok p =>
          rw [e3] at h
          obtain ⟨n3, q3⟩ := p
          have h3 := mtNum.ok _ _ _ e3
          dsimp only at h
          cases e4 : rNum q3 with
          | error e' =>
            rw [e4] at h
            injection h with h
            subst h
            have h4 := mtNum.er _ _ e4
            refine ⟨h4.1, ?_⟩
            simp only [sDl, sN4, h1, h2, h3]
            rw [C _ (by rw [h4.2]; exact h4.1), h4.2]
          | ok p =>
            rw [e4] at h
            obtain ⟨n4, q4⟩ := p
            have h4 := mtNum.ok _ _ _ e4
            dsimp only at h
            cases e5 : rCount 12 q4 with
            | error e' =>
              rw [e5] at h
              injection h with h
              subst h
              have h5 := (mtCount 12).er _ _ e5
              refine ⟨h5.1, ?_⟩
              simp only [sDl, sN4, h1, h2, h3, h4]
              rw [mtMany_st mtEn _ _ (by rw [h5.2]; exact h5.1), h5.2]
            | ok p =>
              rw [e5] at h
              obtain ⟨c, q5⟩ := p
              have h5 := (mtCount 12).ok _ _ _ e5
              dsimp only at h
              cases e6 : rMany rEn c.toNat q5 with
              | error e' =>
                rw [e6] at h
                injection h with h
                subst h
                have h6 := (mtMany mtEn c.toNat).er _ _ e6
                exact ⟨h6.1, by simp only [sDl, sN4, h1, h2, h3, h4, h5]; exact h6.2⟩
              | ok p => rw [e6] at h; cases h
  st s h := by
    have C : ∀ s : Sx, s.2 ≠ 0 → (sMany sEn (sCount 12 s).1.toNat (sCount 12 s).2).2.2 = s.2 := fun s hs => by
      have h1 := (mtCount 12).st s hs
      rw [mtMany_st mtEn _ _ (by rw [h1]; exact hs), h1]
    have s1 := mtNum.st s h
    have s2 := mtNum.st (sNum s).2 (by rw [s1]; exact h)
    have s3 := mtNum.st (sNum (sNum s).2).2 (by rw [s2, s1]; exact h)
    have s4 := mtNum.st (sNum (sNum (sNum s).2).2).2 (by rw [s3, s2, s1]; exact h)
    simp only [sDl, sN4]
    rw [C _ (by rw [s4, s3, s2, s1]; exact h), s4, s3, s2, s1]
/-- Some, as many as are told, or none at all. -/
theorem mtTk {α : Type} {f : List UInt8 → Rd α} {g : Sx → α × Sx} (m : Mt f g) (kn : Bool) : Mt (fun b => if kn = true then (match rCount 8 b with
    | .error e => .error e
    | .ok (c, r) => rMany f c.toNat r) else .ok ([], b)) (fun s => if kn then sMany g (sCount 8 s).1.toNat (sCount 8 s).2 else ([], s)) := by
  cases kn with
  | false => exact ⟨fun b x r h => by injection h with h; injection h with h1 h2; subst h1; subst h2; rfl, fun b e h => (by cases h), fun s h => rfl⟩
  | true =>
    simp only [if_true]
    refine ⟨fun b x r h => ?_, fun b e h => ?_, fun s h => ?_⟩
    · try dsimp only at h
      cases e1 : rCount 8 b with
      | error e => rw [e1] at h; cases h
      | ok p =>
        rw [e1] at h
        obtain ⟨c, q⟩ := p
        rw [(mtCount 8).ok _ _ _ e1]
        exact (mtMany m _).ok _ _ _ h
    · try dsimp only at h
      cases e1 : rCount 8 b with
      | error e' =>
        rw [e1] at h
        injection h with h
        subst h
        have h1 := (mtCount 8).er _ _ e1
        refine ⟨h1.1, ?_⟩
        rw [mtMany_st m _ _ (by rw [h1.2]; exact h1.1), h1.2]
      | ok p =>
        rw [e1] at h
        obtain ⟨c, q⟩ := p
        rw [(mtCount 8).ok _ _ _ e1]
        exact (mtMany m _).er _ _ h
    · have h1 := (mtCount 8).st s h
      try dsimp only
      rw [mtMany_st m _ _ (by rw [h1]; exact h), h1]
theorem mtTkD (kn : Bool) : Mt (rTkD kn) (sTkD kn) := mtTk mtDg kn
theorem mtTkL (tl : Bool) : Mt (rTkL tl) (sTkL tl) := mtTk mtDl tl

theorem refDec_eq (k : Int) (b : List UInt8) : refDec k b = dec20 k b := by
  unfold refDec dec20
  cases kOk k with
  | false => rfl
  | true =>
    simp only [if_true]
    unfold decT rTk
    cases e1 : rTkD (knows k) b with
    | error e =>
      have h1 := (mtTkD _).er _ _ e1
      have h2 := (mtTkL (tells k)).st (sTkD (knows k) (b, 0)).2 (by rw [h1.2]; exact h1.1)
      unfold sEnd
      rw [if_pos (by rw [h2, h1.2]; exact h1.1), h2, h1.2]
    | ok p =>
      obtain ⟨d, q⟩ := p
      rw [(mtTkD _).ok _ _ _ e1]
      dsimp only
      cases e2 : rTkL (tells k) q with
      | error e =>
        have h2 := (mtTkL _).er _ _ e2
        unfold sEnd
        rw [if_pos (by rw [h2.2]; exact h2.1), h2.2]
      | ok p =>
        obtain ⟨l, r⟩ := p
        rw [(mtTkL _).ok _ _ _ e2]
        unfold sEnd
        dsimp only
        rw [if_neg (fun h : (0 : Int) ≠ 0 => h rfl)]
        split <;> rfl
theorem refDecode20_spec' (k : Int) (bs : List UInt8) (hl : bs.length ≤ 1099511627776) (H : List Box) : ASpec Tryd.prog 11 [vi k, vB bs] H (Gives (tkR (dec20 k bs).1 (dec20 k bs).2) H) := by
  rw [← refDec_eq]; exact refDecode20_spec k bs hl H
set_option maxHeartbeats 2000000 in
theorem refOpen20_spec (bs cl : List UInt8) (hl : bs.length ≤ 1099511627776) (H : List Box) : ASpec Tryd.prog 13 [vB bs, vs cl] H (Gives (tkR3 (open20 bs cl)) H) := by
  have h0 := fun H => refDecode_spec bs cl hl H
  have hpl := frD_len20 bs cl hl
  unfold open20
  generalize frD bs cl = x at h0 hpl ⊢
  obtain ⟨⟨k, c, n, p⟩, e⟩ := x
  unfold frDV at h0
  dsimp only at h0 hpl ⊢
  by_cases he : e = 0
  · subst he
    rw [if_neg (fun h : (0 : Int) ≠ 0 => h rfl)]
    have h1 := fun H => refDecode20_spec' k p hpl H
    generalize dec20 k p = y at h1 ⊢
    obtain ⟨⟨k', d, l⟩, e⟩ := y
    dsimp only at h1 ⊢
    by_cases he : e = 0
    · subst he
      rw [if_neg (fun h : (0 : Int) ≠ 0 => h rfl)]
      refine ASpec.enter Tryd.func13 rfl (fun a w => Tryd.call13 a w) Tryd.ntmps13 Tryd.results13 fun base w β hI => ?_
      refine wk wT (wA h0 (wA h1 (wA holM_MsgZB_7 (wA DrM.mk wT)))) ?_
      refine wkEnd wT ?_
      exact Fin.cut (lt_tk3 (⟨k', d, l⟩, n, 0)) ⟨rfl, rfl⟩
    · rw [if_pos he]
      refine ASpec.enter Tryd.func13 rfl (fun a w => Tryd.call13 a w) Tryd.ntmps13 Tryd.results13 fun base w β hI => ?_
      refine wk (wA he wT) (wA h0 (wA h1 (wA holM_MsgZB_7 (wA DrM.mk wT)))) ?_
      refine wkEnd wT ?_
      exact Fin.weak (fun _ _ _ h => rep_tkZ3 h) (Fin.cut (lt_tk3 (tkZ, 0, e)) ⟨rfl, rfl⟩)
  · rw [if_pos he]
    refine ASpec.enter Tryd.func13 rfl (fun a w => Tryd.call13 a w) Tryd.ntmps13 Tryd.results13 fun base w β hI => ?_
    refine wk (wA he wT) (wA h0 (wA holM_MsgZB_7 (wA DrM.mk wT))) ?_
    refine wkEnd wT ?_
    exact Fin.weak (fun _ _ _ h => rep_tkZ3 h) (Fin.cut (lt_tk3 (tkZ, 0, e)) ⟨rfl, rfl⟩)

end Go.Proofs.YtjkdahpoalnjjaaDoor.VL

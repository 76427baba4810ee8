/- Layer 17: a name at a place of bytes, as the program takes it. -/
import Derived.Test.YtkkhbmpcpilmfaaZCd
import Derived.Test.YtkkhbmpcpilmfaaZPa
import Derived.Test.YtkkhbmpcpilmfaaZSb
-- STEPWISE
-- WK
set_option linter.unusedVariables false
set_option linter.unusedSimpArgs false
set_option maxRecDepth 10000
namespace Go.Proofs.Ytkkhbmpcpilmfaa.VL
open Go Go.RowKit Go.Lib

set_option maxHeartbeats 1000000 in
theorem bldWrite_spec (s : List UInt8) (g : Nat) (bs : List UInt8) (hbs : bs.length ≤ 70368744177664) (hs : s.length ≤ 35184372088832) (H : List Box) :
    ASpec Try.prog 41 [.ptr H.length 0 0, vB s] (bldH H g bs) (Gives (.tup [vi s.length, .v .nilIface]) (bldH H (g + 1) (bs ++ s))) := by
  have hc := fun y N => copyCheck_spec H.length y (H ++ (⟨[.bself H.length 0 92, y], 0, 0, false⟩ :: N)) (by simp)
  simp only [bldH, bldB, List.length_append]
  refine ASpec.enter Try.func41 rfl (fun a w => Try.call41 a w) Try.ntmps41 Try.results41 fun base w β hI => ?_
  refine wk wT (wA hc wT) ?_
  refine wkEnd wT ?_
  exact ⟨_, _, Shed.refl _ _ _, rfl, rfl⟩

/-- A name from a place on, and where it ends: the last number tells why there is none. -/
def nmF (b : List UInt8) : Nat → Nat → Nat → Nat → Nat → List UInt8 → List UInt8 × Int × Int
  | 0, _, _, _, _, _ => ([], 0, 0)
  | k + 1, st, j, a, nx, acc =>
    match b[a]? with
    | none => ([], 0, 2)
    | some c =>
      if 63 < c.toNat ∧ c.toNat < 192 then ([], 0, 3)
      else if b.length < a + (if 192 ≤ c.toNat then 2 else 1 + c.toNat) then ([], 0, 2)
      else if c.toNat < 192 then
        if c.toNat = 0 then (acc ++ [c], if j = 0 then ((a + 1 : Nat) : Int) else (nx : Int), 0)
        else if 255 ≤ acc.length + (1 + c.toNat) then ([], 0, 4)
        else nmF b k st j (a + (1 + c.toNat)) (if j = 0 then a + (1 + c.toNat) else nx) (acc ++ (b.take (a + (1 + c.toNat))).drop a)
      else
        if st ≤ (c.toNat - 192) * 256 + (b[a + 1]?.getD 0).toNat ∨ 16 < j + 1 then ([], 0, 15)
        else nmF b k ((c.toNat - 192) * 256 + (b[a + 1]?.getD 0).toNat) (j + 1) ((c.toNat - 192) * 256 + (b[a + 1]?.getD 0).toNat) (if j = 0 then a + 2 else nx) acc
def nmP (b : List UInt8) (at' : Int) : List UInt8 × Int × Int :=
  if at' < 0 ∨ (b.length : Int) < at' then ([], 0, 1) else nmF b 272 at'.toNat 0 at'.toNat 0 []
abbrev nmV (x : List UInt8 × Int × Int) : AV := .tup [vs x.1, vi x.2.1, vi x.2.2]
abbrev NmI (b : List UInt8) (R : List UInt8 × Int × Int) := {p : Nat × Nat × Nat × Nat × Nat × List UInt8 × Nat // nmF b p.1 p.2.1 p.2.2.1 p.2.2.2.1 p.2.2.2.2.1 p.2.2.2.2.2.1 = R ∧ p.2.2.2.2.2.1.length ≤ 254 ∧ p.2.2.1 ≤ 16 ∧ 16 - p.2.2.1 + (255 - p.2.2.2.2.2.1.length) < p.1 ∧ p.2.1 ≤ b.length ∧ p.2.2.2.1 ≤ b.length ∧ p.2.2.2.2.1 ≤ b.length}

theorem andNot_192 {c : UInt8} (h : 192 ≤ c.toNat) : iandNot .u8 (c.toNat : Int) 192 = ((c.toNat - 192 : Nat) : Int) := by
  have key : ∀ n : _root_.Fin 256, 192 ≤ n.val → iandNot .u8 (n.val : Int) 192 = ((n.val - 192 : Nat) : Int) := by decide +kernel
  exact key ⟨c.toNat, c.toNat_lt⟩ h
theorem or_256 {x y : Nat} (hx : x ≤ 63) (hy : y < 256) : ior .i64 ((x : Int) * 256) (y : Int) = ((x * 256 + y : Nat) : Int) := by
  rw [ior_i64 (by omega) (by omega) (by omega) (by omega)]
  have e1 : ((x : Int) * 256).toNat = 2 ^ 8 * x := by omega
  rw [e1, Int.toNat_natCast, ← Nat.two_pow_add_eq_or_of_lt (by omega)]
  congr 1
  omega

set_option maxHeartbeats 8000000 in
theorem pktName_spec (b : List UInt8) (hb : b.length ≤ 1048576) (x : Int) (H : List Box) : ASpec Try.prog 17 [vB b, vi x] H (Gives (nmV (nmP b x)) H) := by
  unfold nmP
  by_cases h0 : x < 0
  · rw [if_pos (.inl h0)]
    refine ASpec.enter Try.func17 rfl (fun a w => Try.call17 a w) Try.ntmps17 Try.results17 fun base w β hI => ?_
    refine wk (wA h0 wT) wT ?_
    refine wkEnd wT ?_
    exact Fin.same ⟨rfl, rfl⟩
  by_cases h1 : (b.length : Int) < x
  · rw [if_pos (.inr h1)]
    refine ASpec.enter Try.func17 rfl (fun a w => Try.call17 a w) Try.ntmps17 Try.results17 fun base w β hI => ?_
    refine wk (wA h0 (wA h1 wT)) wT ?_
    refine wkEnd wT ?_
    exact Fin.same ⟨rfl, rfl⟩
  rw [if_neg (by omega)]
  obtain ⟨a0, rfl⟩ : ∃ a0 : Nat, x = a0 := ⟨x.toNat, by omega⟩
  rw [Int.toNat_natCast]
  generalize hR : nmF b 272 a0 0 a0 0 [] = R
  refine ASpec.enter Try.func17 rfl (fun a w => Try.call17 a w) Try.ntmps17 Try.results17 fun base w β hI => ?_
  refine wk (wA h0 (wA h1 wT)) wT ?_
  refine AWP.coe Coe.bld ?_
  refine AWP.loop (ι := NmI b R) (fun p => ⟨[(0, vB b), (1, vi p.1.2.2.2.1), (5, vi p.1.2.2.2.2.1), (7, .ptr H.length 0 0), (8, vi p.1.2.1), (9, vi p.1.2.2.1)], bldH H p.1.2.2.2.2.2.2 p.1.2.2.2.2.2.1⟩) (fun p => p.1.1) ⟨(272, a0, 0, a0, 0, [], 0), hR, by simp, by simp, by simp, by dsimp only; omega, by dsimp only; omega, by simp⟩ ?_ ?_
  · dsimp only
    exact Coe.kp
  · rintro ⟨⟨k, st, j, a, nx, acc, g⟩, hn, hacc, hj, hk, hst, ha, hnx⟩
    dsimp only at hn hacc hj hk hst ha hnx ⊢
    rcases k with _ | k
    · omega
    rw [nmF] at hn
    by_cases hc : (a : Int) < (b.length : Int)
    · have hg : b[a]? = some b[a] := List.getElem?_eq_getElem (by omega)
      generalize b[a] = c at hg
      rw [hg] at hn
      dsimp only at hn
      have hc256 := c.toNat_lt
      have hge : ¬ (b.length : Int) ≤ (a : Int) := by omega
      by_cases h64 : (63 : Int) < (c.toNat : Int)
      · by_cases h192 : (192 : Int) ≤ (c.toNat : Int)
        · have hd1 : ¬ (c.toNat < 192) := by omega
          have hd1' : ¬ (c.toNat : Int) < 192 := by omega
          rw [if_neg (by omega)] at hn
          by_cases hsz : (b.length : Int) < (a : Int) + 2
          · rw [if_pos (by rw [if_pos (by omega)]; omega)] at hn
            subst hn
            refine wk (wA hge (wA hg (wA h64 (wA h192 (wA hd1' (wA hsz wT)))))) wT ?_
            refine wkEnd wT ?_
            exact Fin.cut ((Lt.v _).cons_tup ((Lt.v _).cons_tup ((Lt.v _).cons_tup .nil_tup))) ⟨rfl, rfl⟩
          · rw [if_neg (by rw [if_pos (by omega)]; omega), if_neg hd1] at hn
            have hg2 : b[a + 1]? = some b[a + 1] := List.getElem?_eq_getElem (by omega)
            generalize b[a + 1] = d at hg2
            rw [hg2] at hn
            have hd256 := d.toNat_lt
            have ean := andNot_192 (c := c) (by omega)
            have hor := or_256 (x := c.toNat - 192) (y := d.toNat) (by omega) (by omega)
            have hi1 : ((a : Int) + 1).toNat = a + 1 := by omega
            simp only [Option.getD_some] at hn
            generalize hto : (c.toNat - 192) * 256 + d.toNat = to at hn hor
            have hto' : ((c.toNat - 192 : Nat) : Int) * 256 + (d.toNat : Int) = (to : Int) := by rw [← hto]; simp
            have hle : to ≤ 65535 := by omega
            have hr1 : ((c.toNat - 192 : Nat) : Int) ≤ 63 := by omega
            have hr2 : (0 : Int) ≤ ((c.toNat - 192 : Nat) : Int) := by omega
            generalize ((c.toNat - 192 : Nat) : Int) = y at *
            by_cases hl1 : (st : Int) ≤ (to : Int)
            · rw [if_pos (.inl (by omega))] at hn
              subst hn
              by_cases hj0 : j = 0
              · subst hj0
                refine wk (wA hge (wA hg (wA h64 (wA h192 (wA hd1' (wA hsz (wA hg2 (wA ean (wA hor (wA hi1 (wA hl1 wT))))))))))) wT ?_
                refine wkEnd wT ?_
                exact Fin.cut ((Lt.v _).cons_tup ((Lt.v _).cons_tup ((Lt.v _).cons_tup .nil_tup))) ⟨rfl, rfl⟩
              · have hj0' : ¬ (j : Int) = 0 := by omega
                refine wk (wA hge (wA hg (wA h64 (wA h192 (wA hd1' (wA hsz (wA hg2 (wA ean (wA hor (wA hi1 (wA hl1 (wA hj0' wT)))))))))))) wT ?_
                refine wkEnd wT ?_
                exact Fin.cut ((Lt.v _).cons_tup ((Lt.v _).cons_tup ((Lt.v _).cons_tup .nil_tup))) ⟨rfl, rfl⟩
            · by_cases hl2 : (16 : Int) < (j : Int) + 1
              · rw [if_pos (.inr (by omega))] at hn
                subst hn
                by_cases hj0 : j = 0
                · omega
                · have hj0' : ¬ (j : Int) = 0 := by omega
                  refine wk (wA hge (wA hg (wA h64 (wA h192 (wA hd1' (wA hsz (wA hg2 (wA ean (wA hor (wA hi1 (wA hl1 (wA hl2 (wA hj0' wT))))))))))))) wT ?_
                  refine wkEnd wT ?_
                  exact Fin.cut ((Lt.v _).cons_tup ((Lt.v _).cons_tup ((Lt.v _).cons_tup .nil_tup))) ⟨rfl, rfl⟩
              · rw [if_neg (by omega)] at hn
                by_cases hj0 : j = 0
                · subst hj0
                  rw [if_pos rfl] at hn
                  refine wk (wA hge (wA hg (wA h64 (wA h192 (wA hd1' (wA hsz (wA hg2 (wA ean (wA hor (wA hi1 (wA hl1 (wA hl2 wT)))))))))))) wT ?_
                  refine ⟨⟨(k, to, 1, to, a + 2, acc, g), hn, hacc, by dsimp only; omega, by dsimp only; omega, by dsimp only; omega, by dsimp only; omega, by dsimp only; omega⟩, ?_, by dsimp only; omega⟩
                  dsimp only
                  exact Coe.kp
                · rw [if_neg hj0] at hn
                  have hj0' : ¬ (j : Int) = 0 := by omega
                  refine wk (wA hge (wA hg (wA h64 (wA h192 (wA hd1' (wA hsz (wA hg2 (wA ean (wA hor (wA hi1 (wA hl1 (wA hl2 (wA hj0' wT))))))))))))) wT ?_
                  refine ⟨⟨(k, to, j + 1, to, nx, acc, g), hn, hacc, by dsimp only; omega, by dsimp only; omega, by dsimp only; omega, by dsimp only; omega, by dsimp only; omega⟩, ?_, by dsimp only; omega⟩
                  dsimp only
                  exact Coe.kp
        · rw [if_pos (by omega)] at hn
          subst hn
          have h192' : (c.toNat : Int) < 192 := by omega
          refine wk (wA hge (wA hg (wA h64 (wA h192 (wA h192' wT))))) wT ?_
          refine wkEnd wT ?_
          exact Fin.cut ((Lt.v _).cons_tup ((Lt.v _).cons_tup ((Lt.v _).cons_tup .nil_tup))) ⟨rfl, rfl⟩
      · have h192 : ¬ (192 : Int) ≤ (c.toNat : Int) := by omega
        have h192' : (c.toNat : Int) < 192 := by omega
        have hx1 : ¬ 192 ≤ c.toNat := by omega
        rw [if_neg (by omega), if_neg hx1] at hn
        by_cases hsz : (b.length : Int) < (a : Int) + (1 + (c.toNat : Int))
        · rw [if_pos (by omega)] at hn
          subst hn
          refine wk (wA hge (wA hg (wA h64 (wA h192 (wA h192' (wA hsz wT)))))) wT ?_
          refine wkEnd wT ?_
          exact Fin.cut ((Lt.v _).cons_tup ((Lt.v _).cons_tup ((Lt.v _).cons_tup .nil_tup))) ⟨rfl, rfl⟩
        · rw [if_neg (by omega), if_pos (by omega)] at hn
          have hi1 : ((a : Int) + (1 + (c.toNat : Int))).toNat = a + (1 + c.toNat) := by omega
          have hle : a + (1 + c.toNat) ≤ b.length := by omega
          by_cases hc0 : (c.toNat : Int) = 0
          · have hc0' : c.toNat = 0 := by omega
            rw [if_pos hc0'] at hn
            have hsl : List.drop a (List.take (a + 1) b) = [c] := by
              rw [take_snoc hg, List.drop_left' (by rw [List.length_take]; omega)]
            have hi2 : ((a : Int) + 1).toNat = a + 1 := by omega
            have hw := bldWrite_spec [c] g acc (by omega) (by simp) H
            have hst2 := bldString_spec (g + 1) (acc ++ [c]) (by simp; omega) H
            have hsz0 : ¬ (b.length : Int) < (a : Int) + 1 := by omega
            have hi3 : (a : Int) + (1 + 0) = (a : Int) + 1 := by omega
            by_cases hj0 : j = 0
            · subst hj0
              rw [if_pos rfl] at hn
              subst hn
              refine wk (wA hge (wA hg (wA hc0 (wA hsz0 (wA hi2 (wA hi3 (wA hsl wT))))))) (wA hw (wA hst2 wT)) ?_
              refine wkEnd wT ?_
              exact Fin.cut ((Lt.v _).cons_tup ((Lt.v _).cons_tup ((Lt.v _).cons_tup .nil_tup))) ⟨rfl, rfl⟩
            · rw [if_neg hj0] at hn
              have hj0' : ¬ (j : Int) = 0 := by omega
              subst hn
              refine wk (wA hge (wA hg (wA hc0 (wA hsz0 (wA hi2 (wA hi3 (wA hsl (wA hj0' wT)))))))) (wA hw (wA hst2 wT)) ?_
              refine wkEnd wT ?_
              exact Fin.cut ((Lt.v _).cons_tup ((Lt.v _).cons_tup ((Lt.v _).cons_tup .nil_tup))) ⟨rfl, rfl⟩
          · rw [if_neg (by omega)] at hn
            have hc1 : 0 < c.toNat := by omega
            have hsgl : (List.drop a (List.take (a + (1 + c.toNat)) b)).length = 1 + c.toNat := by simp only [List.length_drop, List.length_take]; omega
            generalize hsl : List.drop a (List.take (a + (1 + c.toNat)) b) = sg at hn hsgl
            have hw := bldWrite_spec sg g acc (by omega) (by omega) H
            have hln := bldLen_spec (g + 1) (acc ++ sg) (by rw [List.length_append]; omega) H
            have hsum : (acc ++ sg).length = acc.length + (1 + c.toNat) := by rw [List.length_append, hsgl]
            generalize hac2 : acc ++ sg = acc2 at *
            by_cases hj0 : j = 0
            · subst hj0
              rw [if_pos rfl] at hn
              by_cases h255 : (255 : Int) ≤ (acc2.length : Int)
              · rw [if_pos (by omega)] at hn
                subst hn
                refine wk (wA hge (wA hg (wA h64 (wA h192 (wA h192' (wA hsz (wA hi1 (wA hsl (wA hc0 (wA h255 wT)))))))))) (wA hw (wA hln wT)) ?_
                refine wkEnd wT ?_
                exact Fin.cut ((Lt.v _).cons_tup ((Lt.v _).cons_tup ((Lt.v _).cons_tup .nil_tup))) ⟨rfl, rfl⟩
              · rw [if_neg (by omega)] at hn
                refine wk (wA hge (wA hg (wA h64 (wA h192 (wA h192' (wA hsz (wA hi1 (wA hsl (wA hc0 (wA h255 wT)))))))))) (wA hw (wA hln wT)) ?_
                refine ⟨⟨(k, st, 0, a + (1 + c.toNat), a + (1 + c.toNat), acc2, g + 1), hn, by dsimp only; omega, by dsimp only; omega, by dsimp only; omega, by dsimp only; omega, by dsimp only; omega, by dsimp only; omega⟩, ?_, by dsimp only; omega⟩
                dsimp only
                exact Coe.kp
            · rw [if_neg hj0] at hn
              have hj0' : ¬ (j : Int) = 0 := by omega
              by_cases h255 : (255 : Int) ≤ (acc2.length : Int)
              · rw [if_pos (by omega)] at hn
                subst hn
                refine wk (wA hge (wA hg (wA h64 (wA h192 (wA h192' (wA hsz (wA hi1 (wA hsl (wA hc0 (wA h255 (wA hj0' wT))))))))))) (wA hw (wA hln wT)) ?_
                refine wkEnd wT ?_
                exact Fin.cut ((Lt.v _).cons_tup ((Lt.v _).cons_tup ((Lt.v _).cons_tup .nil_tup))) ⟨rfl, rfl⟩
              · rw [if_neg (by omega)] at hn
                refine wk (wA hge (wA hg (wA h64 (wA h192 (wA h192' (wA hsz (wA hi1 (wA hsl (wA hc0 (wA h255 (wA hj0' wT))))))))))) (wA hw (wA hln wT)) ?_
                refine ⟨⟨(k, st, j, a + (1 + c.toNat), nx, acc2, g + 1), hn, by dsimp only; omega, by dsimp only; omega, by dsimp only; omega, by dsimp only; omega, by dsimp only; omega, by dsimp only; omega⟩, ?_, by dsimp only; omega⟩
                dsimp only
                exact Coe.kp
    · have hg : b[a]? = none := List.getElem?_eq_none (by omega)
      have hge : (b.length : Int) ≤ (a : Int) := by omega
      rw [hg] at hn
      dsimp only at hn
      subst hn
      refine wk (wA hge wT) wT ?_
      refine wkEnd wT ?_
      exact Fin.cut ((Lt.v _).cons_tup ((Lt.v _).cons_tup ((Lt.v _).cons_tup .nil_tup))) ⟨rfl, rfl⟩

end Go.Proofs.Ytkkhbmpcpilmfaa.VL

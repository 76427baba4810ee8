/- Layer 20: the reference's Decode and Open. -/
import Derived.Test.YtjkdahpoalnjjaaDoorZCd
import Derived.Test.YtjkdahpoalnjjaaDoorZMg
-- STEPWISE
-- WK
set_option linter.unusedVariables false
set_option linter.unusedSimpArgs false
set_option maxRecDepth 10000
namespace Go.Proofs.YtjkdahpoalnjjaaDoor.VL
open Go Go.RowKit Go.Lib

set_option maxHeartbeats 4000000 in
theorem refB {cB : Code} (hc : (Tryd.f11.body).bind (nav [1, 1, 1, 1, 1, 0]) = some cB) (E : Ent) (hn : E.n = 125) (k : Int) (dg : List Dg) (x3 : Box) (h3 : ∀ c ∈ x3.cells, Lt 0 c) (s : Sx) (hl : s.1.length ≤ 1099511627776) :
    AWP Tryd.prog E cB (PieceX E fun x => ⟨[(4, .ptr E.H.length 0 0), (6, .ptr (E.H.length + 1) 0 0), (7, .ptr (E.H.length + 2) 0 0)], E.H ++ [zTk, rsX (if tells k then (sMany sDl (sCount 8 s).1.toNat (sCount 8 s).2).2 else s), ⟨[vi k, .lst 3 (dgG dg), .lst 5 (dlG (if tells k then (sMany sDl (sCount 8 s).1.toNat (sCount 8 s).2).1 else []))], 0, 0, false⟩, x3, x]⟩)
      ⟨rfS E.H.length k, E.H ++ [zTk, rsX s, ⟨[vi k, .lst 3 (dgG dg), .emp], 0, 0, false⟩, x3, ⟨[], 0, 0, true⟩]⟩ := by
  obtain ⟨cIn, hIn⟩ : ∃ c, (Tryd.f11.body).bind (nav [1, 1, 1, 1, 1, 0, 1, 2, 1, 4, 4, 1, 0, 4, 1, 1, 0]) = some c := ⟨_, rfl⟩
  have hIn' := hIn
  injection hIn' with hIn'
  injection hc with hc
  subst hc
  rw [hIn']
  clear hIn'
  have hk0 := fun H => tells_spec k H
  cases hkk : tells k with
  | false =>
    rw [hkk] at hk0
    refine wk (wA hn wT) (wA hk0 (wA DrM.mk wT)) ?_
    refine ⟨⟨[], 0, 0, true⟩, by simp, ?_⟩
    refine Coe.trans (Coe.empLst (k := E.H.length + 2) (j := 2) 5 (appAt _ _ 2 rfl) rfl) ?_
    rw [appSet _ _ 2]
    simp only [List.set_cons_succ, List.set_cons_zero]
    exact Coe.kp
  | true =>
    rw [hkk] at hk0
    have h0 := fun y N => rsCount_at 8 s hl E.H y N
    refine wk (wA hn wT) (wA hk0 (wA h0 (wA DrM.mk wT))) ?_
    clear hk0 h0
    have hc1 := sCount_len 8 s
    have hc2 := sCount_in (m := 8) (by omega) s
    generalize sCount 8 s = cs at hc1 hc2 ⊢
    obtain ⟨c, s0⟩ := cs
    dsimp only at hc1 hc2 ⊢
    try simp only [if_true]
    generalize hR : sMany sDl c.toNat s0 = R
    have hR0 : R = sOn [] (sMany sDl (c.toNat - 0) s0) := by rw [Nat.sub_zero, hR]; rfl
    clear hR
    refine AWP.loop (ι := {p : Nat × Sx × List Dl // (p.1 : Int) ≤ c ∧ p.2.1.1.length ≤ s.1.length ∧ p.2.2.length = p.1 ∧ R = sOn p.2.2 (sMany sDl (c.toNat - p.1) p.2.1)}) (fun p => ⟨[(4, .ptr E.H.length 0 0), (6, .ptr (E.H.length + 1) 0 0), (7, .ptr (E.H.length + 2) 0 0), (10, vi (c - p.1.1))], E.H ++ [zTk, rsX p.1.2.1, ⟨[vi k, .lst 3 (dgG dg), .sl (E.H.length + 4) p.1.2.2.length 0 p.1.2.2.length 5 false], 0, 0, false⟩, x3, ⟨dlF p.1.2.2, 0, p.1.2.2.length, true⟩]⟩) (fun p => c.toNat - p.1.1) ⟨(0, s0, []), by simpa using hc2.1, hc1, rfl, hR0⟩ ?_ ?_
    · dsimp only
      refine Coe.trans (Coe.empAt (k := E.H.length + 2) (j := 2) (m := E.H.length + 4) 5 (appAt _ _ 2 rfl) rfl (appAt _ _ 4 rfl)) ?_
      rw [appSet _ _ 2]
      simp only [List.set_cons_succ, List.set_cons_zero, Int.ofNat_zero, Int.sub_zero, Int.natCast_zero]
      exact Coe.kp
    · rintro ⟨⟨i, cur, out⟩, hi, hcl, ho, he⟩
      dsimp only at hi hcl ho he ⊢
      by_cases hc : (i : Int) < c
      · obtain ⟨m, hm⟩ : ∃ m, c.toNat - i = m + 1 := ⟨c.toNat - i - 1, by omega⟩
        have hm' : m = c.toNat - (i + 1) := by omega
        rw [hm, sMany_step] at he
        have hd := (sDl_len cur).1
        have l1 := sNum_len cur
        have l2 := sNum_len (sNum cur).2
        have l3 := sNum_len (sNum (sNum cur).2).2
        have l4 := sNum_len (sNum (sNum (sNum cur).2).2).2
        have g0 := fun y N => rsNum_at cur (by omega) E.H y N
        have g1 := fun y N => rsNum_at (sNum cur).2 (by omega) E.H y N
        have g2 := fun y N => rsNum_at (sNum (sNum cur).2).2 (by omega) E.H y N
        have g3 := fun y N => rsNum_at (sNum (sNum (sNum cur).2).2).2 (by omega) E.H y N
        unfold sDl sN4 at he hd
        dsimp only at he hd
        generalize sNum cur = a0 at he hd l1 l2 l3 l4 g0 g1 g2 g3
        obtain ⟨dn, s1⟩ := a0
        dsimp only at he hd l1 l2 l3 l4 g0 g1 g2 g3
        generalize sNum s1 = a1 at he hd l2 l3 l4 g1 g2 g3
        obtain ⟨df, s2⟩ := a1
        dsimp only at he hd l2 l3 l4 g1 g2 g3
        generalize sNum s2 = a2 at he hd l3 l4 g2 g3
        obtain ⟨dgg, s3⟩ := a2
        dsimp only at he hd l3 l4 g2 g3
        generalize sNum s3 = a3 at he hd l4 g3
        obtain ⟨db, s4⟩ := a3
        dsimp only at he hd l4 g3
        have hlt : (0 : Int) < c - (i : Int) := by omega
        refine wk (wA hn (wA hlt wT)) (wA g0 (wA g1 (wA g2 (wA g3 (wA DrM.mk wT))))) ?_
        clear g0 g1 g2 g3
        refine AWP.coe (σ' := ⟨inS E.H.length (c - (i : Int)), _⟩) (by exact Coe.kp) ?_
        refine (refIn hIn E hn s4 (by omega) _ _ _ (fun c hc => ?_) (fun c hc => (h3 c hc).mono (by omega)) (fun c hc => lt_dlF hc) dn df dgg db (c - (i : Int))).mono fun e σ hq => ?_
        · simp only [List.mem_cons, List.not_mem_nil, or_false] at hc
          rcases hc with rfl | rfl | rfl
          · exact .v _
          · exact lt_dg _
          · exact .sl _ _ _ _ _ _ (by omega)
        · cases e with
          | normal =>
            generalize sMany sEn (sCount 12 s4).1.toNat (sCount 12 s4).2 = M at he hd hq
            obtain ⟨ap, s5⟩ := M
            dsimp only at he hd hq
            refine AWP.coe hq ?_
            have ha1 : (out.length + 1) * 56 ≤ 140737488355328 := cap56 (by omega)
            have e2 : dlF out ++ [vi dn, vi df, vi dgg, vi db, .lst 3 (enG ap)] = dlF (out ++ [⟨dn, df, ⟨dgg, db, ap⟩⟩]) := dlF_snoc out ⟨dn, df, ⟨dgg, db, ap⟩⟩
            have e1 : (out ++ [(⟨dn, df, ⟨dgg, db, ap⟩⟩ : Dl)]).length = out.length + 1 := by simp
            clear hq hIn
            refine wk (wA hn (wA hlt (wA ha1 (wA e2 wT)))) (wA DrM.mk wT) ?_
            refine ⟨⟨(i + 1, s5, out ++ [⟨dn, df, ⟨dgg, db, ap⟩⟩]), by dsimp only; omega, by dsimp only; omega, by dsimp only; omega, by dsimp only; rw [← hm']; exact he⟩, ?_, by dsimp only; omega⟩
            dsimp only
            rw [e1, show c - ((i + 1 : Nat) : Int) = c - (i : Int) - 1 by omega]
            refine Coe.cutN (M := [_, _, _, _, _]) (N := [_]) ?_ ?_ ?_
            · simp (disch := omega) only [Keeps, List.mem_cons, List.not_mem_nil, or_false, forall_eq_or_imp, forall_eq, go_sem, Nat.reduceBEq, Nat.reduceLT, Nat.reduceEqDiff, reduceIte, Nat.reduceAdd, Nat.reduceMul, Nat.reduceSub, Nat.reduceLeDiff, Int.reduceToNat, Int.reducePow, Int.reduceLT, Int.reduceEq, Int.reduceNeg, Nat.reducePow, List.reduceReplicate, Int.reduceLE]
            · simp only [List.mem_cons, List.not_mem_nil, or_false, forall_eq_or_imp, forall_eq, List.length_cons, List.length_nil]
              and_intros <;> first | exact .v _ | exact .ptr _ _ _ (by omega)
            · simp only [List.mem_cons, List.not_mem_nil, or_false, forall_eq_or_imp, forall_eq, List.length_cons, List.length_nil]
              and_intros <;> first | exact .v _ | exact .emp | exact lt_bytes _ | exact lt_dg _ | exact .sl _ _ _ _ _ _ (by omega) | exact fun c hc => lt_dlF hc | exact fun c hc => (h3 c hc).mono (by omega)
          | _ => exact hq.elim
      · obtain hz : c.toNat - i = 0 := by omega
        rw [hz, sMany, sOn, List.append_nil] at he
        dsimp only at he
        subst he
        have hlt : ¬ (0 : Int) < c - (i : Int) := by omega
        refine wk (wA hn (wA hlt wT)) (wA DrM.mk wT) ?_
        refine ⟨⟨dlF out, max 0 (out.length * 5), out.length, true⟩, fun c hc => lt_dlF hc, ?_⟩
        refine Coe.trans (Coe.freezeCell (k := E.H.length + 2) (j := 2) (m := E.H.length + 4) (g := out.length) (n := out.length) (sz := 5) (G := dlG out) (appAt _ _ 2 rfl) rfl (appAt _ _ 4 rfl) rfl (by omega) (by dsimp only; rw [dlF_length]; exact Nat.le_refl _) (chunk_dlF out)) ?_
        rw [appSet _ _ 4, appSet _ _ 2]
        simp only [List.set_cons_succ, List.set_cons_zero]
        exact Coe.kp

end Go.Proofs.YtjkdahpoalnjjaaDoor.VL

/- Layer 20: the reference's Decode and Open. -/
-- STEPWISE
-- WK
-- HOLE 26 0 [(.same, []), (.same, [0]), (.same, [0]), (.same, [0]), (.same, [0]), (.wr 0, []), (.same, [])]
-- HOLE 7 0 [(.same, []), (.same, [0]), (.same, [0]), (.wr 0, []), (.same, []), (.same, [])]
set_option linter.unusedVariables false
set_option linter.unusedSimpArgs false
set_option maxRecDepth 10000
namespace Go.Proofs.YtjkdahpoalnjjaaDoor.VL
open Go Go.RowKit Go.Lib

theorem holM_MsgZA_26 : HolM 26 0 [(.same, []), (.same, [0]), (.same, [0]), (.same, [0]), (.same, [0]), (.wr 0, []), (.same, [])] := ⟨⟩
theorem holM_MsgZA_7 : HolM 7 0 [(.same, []), (.same, [0]), (.same, [0]), (.wr 0, []), (.same, []), (.same, [])] := ⟨⟩

def sTkD (kn : Bool) (s : Sx) : List Dg × Sx := if kn then sMany sDg (sCount 8 s).1.toNat (sCount 8 s).2 else ([], s)
def sTkL (tl : Bool) (s : Sx) : List Dl × Sx := if tl then sMany sDl (sCount 8 s).1.toNat (sCount 8 s).2 else ([], s)
/-- What is decoded, once all is read. -/
def sEnd (k : Int) (d : List Dg) (l : List Dl) (s : Sx) : Tk × Int :=
  if s.2 ≠ 0 then (tkZ, s.2) else if 0 < s.1.length ∨ tkOk ⟨k, d, l⟩ = false then (tkZ, 3) else (⟨k, d, l⟩, 0)
def refDec (k : Int) (b : List UInt8) : Tk × Int :=
  if kOk k then sEnd k (sTkD (knows k) (b, 0)).1 (sTkL (tells k) (sTkD (knows k) (b, 0)).2).1 (sTkL (tells k) (sTkD (knows k) (b, 0)).2).2 else (tkZ, 1)

theorem sMany_all {α : Type} {f : Sx → α × Sx} {P : α → Prop} {N : Nat} (hf : ∀ s, s.1.length ≤ N → P (f s).1 ∧ (f s).2.1.length ≤ s.1.length) : ∀ (n : Nat) (s : Sx), s.1.length ≤ N → ∀ x ∈ (sMany f n s).1, P x
  | 0, s, _ => by intro x hx; cases hx
  | n + 1, s, h => by
    have h1 := hf s h
    intro y hy
    simp only [sMany] at hy
    rcases List.mem_cons.1 hy with rfl | hy
    · exact h1.1
    · exact sMany_all hf n _ (by omega) y hy
theorem sText_in (s : Sx) : (sText s).1.length ≤ s.1.length := by
  unfold sText
  split
  · exact (tt_facts s.1 200).2.1
  · simp
theorem sDl_in (s : Sx) (h : s.1.length ≤ 1099511627776) : DlIn (sDl s).1 ∧ (sDl s).2.1.length ≤ s.1.length := by
  have h0 := sDl_len s
  refine ⟨⟨by omega, ?_⟩, h0.1⟩
  have h1 := sN4_len s
  have h2 := sCount_len 12 (sN4 s)
  exact sMany_all (P := fun y : En => y.s.length ≤ 9223372036854775807) (N := 1099511627776) (fun s hs => by
    have e1 := sEn_len s
    refine ⟨?_, e1⟩
    have l1 := sNum_len s
    have l2 := sNum_len (sNum s).2
    have l3 := sText_in (sNum (sNum s).2).2
    simp only [sEn]; omega) _ _ (by omega)
theorem sTkD_in (kn : Bool) (s : Sx) : (sTkD kn s).1.length ≤ 8 ∧ (sTkD kn s).2.1.length ≤ s.1.length := by
  unfold sTkD
  split
  · have h1 := sCount_in (m := 8) (by omega) s
    have h2 := sCount_len 8 s
    have h3 := sMany_len sDg_len (sCount 8 s).1.toNat (sCount 8 s).2
    omega
  · simp
theorem sTkL_in (tl : Bool) (s : Sx) (h : s.1.length ≤ 1099511627776) : (sTkL tl s).1.length ≤ 8 ∧ (sTkL tl s).2.1.length ≤ s.1.length ∧ ∀ d ∈ (sTkL tl s).1, DlIn d := by
  unfold sTkL
  split
  · have h1 := sCount_in (m := 8) (by omega) s
    have h2 := sCount_len 8 s
    have h3 := sMany_len (fun s => (sDl_len s).1) (sCount 8 s).1.toNat (sCount 8 s).2
    exact ⟨by omega, by omega, sMany_all (N := 1099511627776) sDl_in _ _ (by omega)⟩
  · simp
theorem sTkD_if (kn : Bool) (s : Sx) : (if kn = true then (sMany sDg (sCount 8 s).1.toNat (sCount 8 s).2).2 else s) = (sTkD kn s).2 ∧ (if kn = true then (sMany sDg (sCount 8 s).1.toNat (sCount 8 s).2).1 else []) = (sTkD kn s).1 := by
  unfold sTkD; cases kn <;> exact ⟨rfl, rfl⟩
theorem sTkL_if (tl : Bool) (s : Sx) : (if tl = true then (sMany sDl (sCount 8 s).1.toNat (sCount 8 s).2).2 else s) = (sTkL tl s).2 ∧ (if tl = true then (sMany sDl (sCount 8 s).1.toNat (sCount 8 s).2).1 else []) = (sTkL tl s).1 := by
  unfold sTkL; cases tl <;> exact ⟨rfl, rfl⟩

set_option maxHeartbeats 4000000 in
theorem refDecode20_spec (k : Int) (bs : List UInt8) (hl : bs.length ≤ 1099511627776) (H : List Box) : ASpec Tryd.prog 11 [vi k, vB bs] H (Gives (tkR (refDec k bs).1 (refDec k bs).2) H) := by
  obtain ⟨cA, hA⟩ : ∃ c, (Tryd.f11.body).bind (nav [1, 1, 1, 1, 0]) = some c := ⟨_, rfl⟩
  obtain ⟨cB, hB⟩ : ∃ c, (Tryd.f11.body).bind (nav [1, 1, 1, 1, 1, 0]) = some c := ⟨_, rfl⟩
  have hA' := hA
  injection hA' with hA'
  have hB' := hB
  injection hB' with hB'
  unfold refDec
  by_cases h1 : k < 1
  · rw [show kOk k = false from decide_eq_false (by omega), if_neg (by simp)]
    clear hA' hB' hA hB
    refine ASpec.enter Tryd.func11 rfl (fun a w => Tryd.call11 a w) Tryd.ntmps11 Tryd.results11 fun base w β hI => ?_
    refine wk (wA h1 wT) (wA holM_MsgZA_26 (wA holM_MsgZA_7 (wA DrM.mk wT))) ?_
    refine wkEnd wT ?_
    exact Fin.weak (fun _ _ _ h => rep_tkZ2 h) (Fin.cut (lt_tk2 tkZ 1) ⟨rfl, rfl⟩)
  · by_cases h7 : 7 < k
    · rw [show kOk k = false from decide_eq_false (by omega), if_neg (by simp)]
      clear hA' hB' hA hB
      refine ASpec.enter Tryd.func11 rfl (fun a w => Tryd.call11 a w) Tryd.ntmps11 Tryd.results11 fun base w β hI => ?_
      refine wk (wA h1 (wA h7 wT)) (wA holM_MsgZA_26 (wA holM_MsgZA_7 (wA DrM.mk wT))) ?_
      refine wkEnd wT ?_
      exact Fin.weak (fun _ _ _ h => rep_tkZ2 h) (Fin.cut (lt_tk2 tkZ 1) ⟨rfl, rfl⟩)
    · rw [show kOk k = true from decide_eq_true (by omega), if_pos rfl]
      refine ASpec.enter Tryd.func11 rfl (fun a w => Tryd.call11 a w) Tryd.ntmps11 Tryd.results11 fun base w β hI => ?_
      rw [hA', hB']
      clear hA' hB'
      refine wk (wA h1 (wA h7 wT)) (wA holM_MsgZA_26 (wA holM_MsgZA_7 (wA DrM.mk wT))) ?_
      refine AWP.coe (σ' := ⟨rfS H.length k, H ++ [zTk, rsX (bs, 0), ⟨[vi k, .emp, .emp], 0, 0, false⟩, ⟨[], 0, 0, true⟩, ⟨[], 0, 0, true⟩]⟩) (Coe.trans (Coe.trans Coe.newB Coe.newB) ?_) ?_
      · simp only [List.append_assoc, List.cons_append, List.nil_append]
        exact Coe.kp
      · refine (refA hA _ rfl k (bs, 0) hl).mono fun e σ hq => ?_
        cases e with
        | normal =>
          obtain ⟨x3, hx3, hq⟩ := hq
          rw [(sTkD_if _ _).1, (sTkD_if _ _).2] at hq
          have d1 := sTkD_in (knows k) (bs, 0)
          generalize sTkD (knows k) (bs, 0) = D at hq d1 ⊢
          obtain ⟨d, s1⟩ := D
          dsimp only at hq d1 ⊢
          refine AWP.coe hq ?_
          refine AWP.seq ?_
          refine (refB hB _ rfl k d x3 hx3 s1 (by omega)).mono fun e σ hq => ?_
          cases e with
          | normal =>
            obtain ⟨x4, hx4, hq⟩ := hq
            rw [(sTkL_if _ _).1, (sTkL_if _ _).2] at hq
            have d2 := sTkL_in (tells k) s1 (by omega)
            generalize sTkL (tells k) s1 = L at hq d2 ⊢
            obtain ⟨l, s2, e2⟩ := L
            dsimp only at hq d2 ⊢
            refine AWP.coe hq ?_
            clear hq hA hB
            have hR := fun H => refTkRight_spec ⟨k, d, l⟩ ⟨by dsimp only; omega, by dsimp only; omega, d2.2.2⟩ H
            unfold sEnd
            dsimp only
            by_cases he : e2 = 0
            · subst he
              rw [if_neg (fun h : (0 : Int) ≠ 0 => h rfl)]
              by_cases hq : 0 < s2.length
              · have hq' : (0 : Int) < (s2.length : Int) := by omega
                rw [if_pos (.inl hq)]
                clear hR d1 d2
                refine wk (wA hq' wT) (wA holM_MsgZA_26 (wA holM_MsgZA_7 (wA DrM.mk wT))) ?_
                refine wkEnd wT ?_
                exact Fin.weak (fun _ _ _ h => rep_tkZ2 h) (Fin.cut (lt_tk2 tkZ 3) ⟨rfl, rfl⟩)
              · have hq' : ¬ (0 : Int) < (s2.length : Int) := by omega
                clear d1 d2
                cases hok : tkOk ⟨k, d, l⟩ with
                | false =>
                  rw [hok] at hR
                  rw [if_pos (.inr rfl)]
                  refine wk (wA hq' wT) (wA hR (wA holM_MsgZA_26 (wA holM_MsgZA_7 (wA DrM.mk wT)))) ?_
                  refine wkEnd wT ?_
                  exact Fin.weak (fun _ _ _ h => rep_tkZ2 h) (Fin.cut (lt_tk2 tkZ 3) ⟨rfl, rfl⟩)
                | true =>
                  rw [hok] at hR
                  rw [if_neg (fun h => h.elim hq (fun h => by cases h))]
                  refine wk (wA hq' wT) (wA hR (wA holM_MsgZA_26 (wA holM_MsgZA_7 (wA DrM.mk wT)))) ?_
                  refine wkEnd wT ?_
                  exact Fin.cut (lt_tk2 ⟨k, d, l⟩ 0) ⟨rfl, rfl⟩
            · rw [if_pos he]
              clear hR d1 d2
              refine wk (wA he wT) (wA holM_MsgZA_26 (wA holM_MsgZA_7 (wA DrM.mk wT))) ?_
              refine wkEnd wT ?_
              exact Fin.weak (fun _ _ _ h => rep_tkZ2 h) (Fin.cut (lt_tk2 tkZ e2) ⟨rfl, rfl⟩)
          | _ => exact hq.elim
        | _ => exact hq.elim

end Go.Proofs.YtjkdahpoalnjjaaDoor.VL

/- Layer 25: the law of what is true of nets. -/
import Derived.Test.YtnoekcdmaaakfaaZNetQA
import Derived.Test.YtnoekcdmaaakfaaZNetX
-- STEPWISE
-- WK
-- HWR
-- HOLE 21 0 [(.same, [1]), (.same, []), (.same, []), (.same, []), (.wr 1, []), (.wr 3, []), (.same, [])]
set_option linter.unusedVariables false
set_option linter.unusedSimpArgs false
set_option maxRecDepth 10000
namespace Go.Proofs.Ytnoekcdmaaakfaa.VL
open Go Go.RowKit Go.Lib

theorem holM_NetTR_21 : HolM 21 0 [(.same, [1]), (.same, []), (.same, []), (.same, []), (.wr 1, []), (.wr 3, []), (.same, [])] := ⟨⟩

theorem rep_emp2 {w : World} {H : List Box} {β : Pl} {v : Value} (sz : Nat) (h : Rep w H β .emp v) : Rep w H β (.lst sz []) v := by
  cases h with
  | emp a => exact .lst0 _ _ _

set_option maxHeartbeats 16000000 in
theorem netTrue_spec (l : List Tu) (hl0 : l.length ≤ 9223372036854775807) (h8 : ∀ t ∈ l, t8 t) (H : List Box) : ASpec Try.prog 5 [.lst 4 (tuG l)] H (Gives (vb true) H) := by
  have ha := fun H => alive25_spec H
  by_cases h200 : (200 : Int) < (l.length : Int)
  · refine ASpec.enter Try.func5 rfl (fun a w => Try.call5 a w) Try.ntmps5 Try.results5 fun base w β hI => ?_
    refine wk (wA h200 wT) (wA ha (wA holM_NetTR_21 (wA DrM.mk wT))) ?_
    refine wkEnd wT ?_
    exact Fin.same ⟨rfl, rfl⟩
  refine ASpec.enter Try.func5 rfl (fun a w => Try.call5 a w) Try.ntmps5 Try.results5 fun base w β hI => ?_
  refine wk (wA h200 wT) (wA ha (wA holM_NetTR_21 (wA DrM.mk wT))) ?_
  refine AWP.loop (ι := {s : Nat × Nt × List Ml × Nat // s.1 ≤ l.length ∧ ntOk s.2.1 = true ∧ (∀ m ∈ s.2.1.fl, m ∈ s.2.2.1) ∧ s.2.2.1.length ≤ s.1}) (fun s => ⟨[(0, .lst 4 (tuG l)), (3, .ptr H.length 0 0), (4, .sl (H.length + 1) s.1.2.2.2 0 s.1.2.2.1.length 3 false), (5, vi s.1.1)], H ++ [⟨ntC s.1.2.1, 0, 0, false⟩, ⟨mlF s.1.2.2.1, 0, s.1.2.2.2, true⟩]⟩) (fun s => l.length - s.1.1) ⟨(0, ⟨[], []⟩, [], 0), Nat.zero_le _, by decide +kernel, by simp, Nat.le_refl _⟩ ?_ ?_
  · dsimp only
    refine Coe.trans (Coe.cell (k := H.length + 0) (j := 0) (c' := .lst 3 []) (app_at _ _ 0 rfl) rfl (fun w β x _ hr => rep_emp2 3 hr)) ?_
    rw [List.set_append_right _ _ (by omega)]
    simp only [Nat.add_sub_cancel_left, Nat.add_zero, Nat.sub_self, List.set_cons_zero, List.set_cons_succ]
    refine Coe.trans (Coe.cell (k := H.length + 0) (j := 1) (c' := .lst 2 []) (app_at _ _ 0 rfl) rfl (fun w β x _ hr => rep_emp2 2 hr)) ?_
    rw [List.set_append_right _ _ (by omega)]
    simp only [Nat.add_sub_cancel_left, Nat.add_zero, Nat.sub_self, List.set_cons_zero, List.set_cons_succ]
    exact Coe.emp (t := 4) (sz := 3) (N := [_]) rfl (Keeps.kp wT)
  · rintro ⟨⟨i, n, S, g⟩, hi, hok, hsub, hSi⟩
    dsimp only at hi hok hsub hSi ⊢
    have hnL := ok_L hok
    by_cases hc : (i : Int) < (l.length : Int)
    · have hg : l[i]? = some l[i] := List.getElem?_eq_getElem (by omega)
      have ht8 := h8 l[i] (List.getElem_mem _)
      generalize l[i] = t at hg ht8
      obtain ⟨k, a, b, d⟩ := t
      obtain ⟨⟨k0, k1⟩, ⟨a0, a1⟩, ⟨b0, b1⟩⟩ := ht8
      dsimp only at k0 k1 a0 a1 b0 b1
      by_cases hd : (100 : Int) < (d.length : Int)
      · obtain ⟨fl, cu⟩ := n
        refine wk (wA hc (wA hg (wA hd wT))) (wA holM_NetTR_21 (wA DrM.mk wT)) ?_
        refine wkEnd wT ?_
        exact Fin.cut (.v _) ⟨rfl, rfl⟩
      have ea : a.tmod 8 = a % 8 := Int.tmod_eq_emod_of_nonneg a0
      have eb : b.tmod 8 = b % 8 := Int.tmod_eq_emod_of_nonneg b0
      have hmk := mod8_ok (d := d) a0 b0 (by omega)
      have hend : ∀ (n' : Nt) (S' : List Ml) (g' : Nat) (N : List Box) (k : List (Nat × AV)), Keeps k [(0, .lst 4 (tuG l)), (3, .ptr H.length 0 0), (4, .sl (H.length + 1) g' 0 S'.length 3 false), (5, vi ((i + 1 : Nat) : Int))] → Coe ⟨base, 208, w, H, β, hI⟩ ⟨k, H ++ ([⟨ntC n', 0, 0, false⟩, ⟨mlF S', 0, g', true⟩] ++ N)⟩ ⟨[(0, .lst 4 (tuG l)), (3, .ptr H.length 0 0), (4, .sl (H.length + 1) g' 0 S'.length 3 false), (5, vi ((i + 1 : Nat) : Int))], H ++ [⟨ntC n', 0, 0, false⟩, ⟨mlF S', 0, g', true⟩]⟩ := fun n' S' g' N k hk => by
        refine Coe.cutN (M := [_, _]) hk ?_ ?_
        · simp only [List.mem_cons, List.not_mem_nil, or_false, forall_eq_or_imp, forall_eq, List.length_cons, List.length_nil]
          exact ⟨lt_tu _, .ptr _ _ _ (by omega), .sl _ _ _ _ _ _ (by omega), .v _⟩
        · intro c hc
          simp only [List.mem_cons, List.not_mem_nil, or_false] at hc
          rcases hc with rfl | rfl
          · simp only [List.mem_cons, List.not_mem_nil, or_false, forall_eq_or_imp, forall_eq]
            exact ⟨lt_ml _, lt_ct _⟩
          · exact lt_mlF S'
      have hright : ∀ (n' : Nt), ntOk n' = true → ∀ H, ASpec Try.prog 23 [ntV n'] H (Gives (vb true) H) := fun n' h H => by
        have := netRight_spec n' (by have := (ok_L h).fl; omega) (by have := (ok_L h).cu; omega) H
        rwa [h] at this
      have hsame : ∀ H, ASpec Try.prog 19 [ntV n, ntV n] H (Gives (vb true) H) := fun H => refSame_spec n (by have := hnL.fl; omega) (by have := hnL.cu; omega) H
      have hblk : ∀ (n' : Nt) (x y : Int), ntOk n' = true → ∀ H, ASpec Try.prog 20 [ntV n', vi x, vi y] H (Gives (vb (blk n' x y)) H) := fun n' x y h H => blocked_spec n' x y (by have := (ok_L h).cu; omega) H
      by_cases hk2 : k = 2
      · subst hk2
        have hs := fun H => lose_spec n hnL a H
        have hask := ok_ask hok a0
        unfold loseN at hs
        by_cases hpl : a < (n.fl.length : Int)
        · rw [if_pos hpl] at hask
          rw [hask, if_pos rfl] at hs
          have hok' := ok_drop hok a.toNat
          have hsub' := sub_drop hsub a.toNat
          have hr := hright _ hok'
          generalize dropN n a.toNat = n' at *
          clear hok hnL hblk hright hask
          obtain ⟨fl, cu⟩ := n
          obtain ⟨fl', cu'⟩ := n'
          refine wk (wA hc (wA hg (wA hd (wA ea (wA eb wT))))) (wA hs (wA hr (wA holM_NetTR_21 (wA DrM.mk wT)))) ?_
          exact ⟨⟨(i + 1, ⟨fl', cu'⟩, S, g), by dsimp only; omega, hok', hsub', by dsimp only; first | omega | (simp only [List.length_append, List.length_singleton]; omega)⟩, hend ⟨fl', cu'⟩ S g _ _ (Keeps.kp wT), by dsimp only; omega⟩
        · rw [if_neg hpl] at hask
          rw [hask, if_neg (by decide)] at hs
          have hr := hright _ hok
          clear hblk hright hask
          obtain ⟨fl, cu⟩ := n
          refine wk (wA hc (wA hg (wA hd (wA ea (wA eb wT))))) (wA hs (wA hr (wA hsame (wA holM_NetTR_21 (wA DrM.mk wT))))) ?_
          exact ⟨⟨(i + 1, ⟨fl, cu⟩, S, g), by dsimp only; omega, hok, hsub, by dsimp only; first | omega | (simp only [List.length_append, List.length_singleton]; omega)⟩, hend ⟨fl, cu⟩ S g _ _ (Keeps.kp wT), by dsimp only; omega⟩
      by_cases hk3 : k = 3
      · subst hk3
        have hs := fun H => double_spec n hnL a H
        have hask := ok_ask hok a0
        unfold dblN at hs
        by_cases hpl : a < (n.fl.length : Int)
        · rw [if_pos hpl] at hask
          rw [hask, if_pos rfl] at hs
          by_cases h60 : n.fl.length = 60
          · rw [if_pos h60] at hs
            have hr := hright _ hok
            clear hblk hright hask
            obtain ⟨fl, cu⟩ := n
            refine wk (wA hc (wA hg (wA hd (wA ea (wA eb wT))))) (wA hs (wA hr (wA hsame (wA holM_NetTR_21 (wA DrM.mk wT))))) ?_
            exact ⟨⟨(i + 1, ⟨fl, cu⟩, S, g), by dsimp only; omega, hok, hsub, by dsimp only; first | omega | (simp only [List.length_append, List.length_singleton]; omega)⟩, hend ⟨fl, cu⟩ S g _ _ (Keeps.kp wT), by dsimp only; omega⟩
          · rw [if_neg h60] at hs
            have hgm : n.fl[a.toNat]? = some n.fl[a.toNat] := List.getElem?_eq_getElem (by omega)
            have hmm : n.fl[a.toNat] ∈ n.fl := List.getElem_mem _
            rw [List.getD_eq_getElem?_getD, hgm, Option.getD_some] at hs
            generalize n.fl[a.toNat] = m at *
            have hl60 := (ntOk_cu hok).1
            have hok' := ok_snoc hok (m := m) (by omega) (List.all_eq_true.1 (ntOk_cu hok).2.2.1 m hmm)
            have hsub' : ∀ x ∈ n.fl ++ [m], x ∈ S := fun x hx => by
              rcases List.mem_append.1 hx with h | h
              · exact hsub x h
              · rw [List.mem_singleton.1 h]; exact hsub m hmm
            have hr := hright _ hok'
            clear hok hnL hblk hright hask hgm hl60 hmm
            obtain ⟨fl, cu⟩ := n
            dsimp only at hs hr hok' hsub'
            generalize fl ++ [m] = fl' at *
            refine wk (wA hc (wA hg (wA hd (wA ea (wA eb wT))))) (wA hs (wA hr (wA holM_NetTR_21 (wA DrM.mk wT)))) ?_
            exact ⟨⟨(i + 1, ⟨fl', cu⟩, S, g), by dsimp only; omega, hok', hsub', by dsimp only; first | omega | (simp only [List.length_append, List.length_singleton]; omega)⟩, hend ⟨fl', cu⟩ S g _ _ (Keeps.kp wT), by dsimp only; omega⟩
        · rw [if_neg hpl] at hask
          rw [hask, if_neg (by decide)] at hs
          have hr := hright _ hok
          clear hblk hright hask
          obtain ⟨fl, cu⟩ := n
          refine wk (wA hc (wA hg (wA hd (wA ea (wA eb wT))))) (wA hs (wA hr (wA hsame (wA holM_NetTR_21 (wA DrM.mk wT))))) ?_
          exact ⟨⟨(i + 1, ⟨fl, cu⟩, S, g), by dsimp only; omega, hok, hsub, by dsimp only; first | omega | (simp only [List.length_append, List.length_singleton]; omega)⟩, hend ⟨fl, cu⟩ S g _ _ (Keeps.kp wT), by dsimp only; omega⟩
      by_cases hk4 : k = 4
      · subst hk4
        have hs := fun H => part_spec n hnL (a % 8) (b % 8) H
        unfold partN at hs
        by_cases hw : wayN n (a % 8) (b % 8) false = 0
        · rw [if_pos hw] at hs
          obtain ⟨hok', hb'⟩ := ok_part hw
          have hbk := hblk _ (b % 8) (a % 8) hok'
          rw [hb'] at hbk
          have hr := hright _ hok'
          clear hok hnL hblk hright hb' hw
          obtain ⟨fl, cu⟩ := n
          dsimp only at hs hr hok' hbk
          generalize insC (cutC (a % 8) (b % 8)) cu = cu' at *
          refine wk (wA hc (wA hg (wA hd (wA ea (wA eb wT))))) (wA hs (wA hr (wA hbk (wA holM_NetTR_21 (wA DrM.mk wT))))) ?_
          exact ⟨⟨(i + 1, ⟨fl, cu'⟩, S, g), by dsimp only; omega, hok', hsub, by dsimp only; first | omega | (simp only [List.length_append, List.length_singleton]; omega)⟩, hend ⟨fl, cu'⟩ S g _ _ (Keeps.kp wT), by dsimp only; omega⟩
        · rw [if_neg hw] at hs
          have hr := hright _ hok
          rcases way_bad hok (a % 8) (b % 8) false with h0 | h0 | h0
          · exact absurd h0 hw
          · rw [h0] at hs
            clear hblk hright hw h0
            obtain ⟨fl, cu⟩ := n
            refine wk (wA hc (wA hg (wA hd (wA ea (wA eb wT))))) (wA hs (wA hr (wA hsame (wA holM_NetTR_21 (wA DrM.mk wT))))) ?_
            exact ⟨⟨(i + 1, ⟨fl, cu⟩, S, g), by dsimp only; omega, hok, hsub, by dsimp only; first | omega | (simp only [List.length_append, List.length_singleton]; omega)⟩, hend ⟨fl, cu⟩ S g _ _ (Keeps.kp wT), by dsimp only; omega⟩
          · rw [h0] at hs
            clear hblk hright hw h0
            obtain ⟨fl, cu⟩ := n
            refine wk (wA hc (wA hg (wA hd (wA ea (wA eb wT))))) (wA hs (wA hr (wA hsame (wA holM_NetTR_21 (wA DrM.mk wT))))) ?_
            exact ⟨⟨(i + 1, ⟨fl, cu⟩, S, g), by dsimp only; omega, hok, hsub, by dsimp only; first | omega | (simp only [List.length_append, List.length_singleton]; omega)⟩, hend ⟨fl, cu⟩ S g _ _ (Keeps.kp wT), by dsimp only; omega⟩
      by_cases hk5 : k = 5
      · subst hk5
        have hs := fun H => heal_spec n hnL (a % 8) (b % 8) H
        unfold healN at hs
        by_cases hw : wayN n (a % 8) (b % 8) true = 0
        · rw [if_pos hw] at hs
          obtain ⟨hok', hb'⟩ := ok_heal hw
          have hbk := hblk _ (a % 8) (b % 8) hok'
          rw [hb'] at hbk
          have hr := hright _ hok'
          clear hok hnL hblk hright hb' hw
          obtain ⟨fl, cu⟩ := n
          dsimp only at hs hr hok' hbk
          generalize (cu.filter fun c => decide (c ≠ cutC (a % 8) (b % 8))) = cu' at *
          refine wk (wA hc (wA hg (wA hd (wA ea (wA eb wT))))) (wA hs (wA hr (wA hbk (wA holM_NetTR_21 (wA DrM.mk wT))))) ?_
          exact ⟨⟨(i + 1, ⟨fl, cu'⟩, S, g), by dsimp only; omega, hok', hsub, by dsimp only; first | omega | (simp only [List.length_append, List.length_singleton]; omega)⟩, hend ⟨fl, cu'⟩ S g _ _ (Keeps.kp wT), by dsimp only; omega⟩
        · rw [if_neg hw] at hs
          have hr := hright _ hok
          rcases way_bad hok (a % 8) (b % 8) true with h0 | h0 | h0
          · exact absurd h0 hw
          · rw [h0] at hs
            clear hblk hright hw h0
            obtain ⟨fl, cu⟩ := n
            refine wk (wA hc (wA hg (wA hd (wA ea (wA eb wT))))) (wA hs (wA hr (wA hsame (wA holM_NetTR_21 (wA DrM.mk wT))))) ?_
            exact ⟨⟨(i + 1, ⟨fl, cu⟩, S, g), by dsimp only; omega, hok, hsub, by dsimp only; first | omega | (simp only [List.length_append, List.length_singleton]; omega)⟩, hend ⟨fl, cu⟩ S g _ _ (Keeps.kp wT), by dsimp only; omega⟩
          · rw [h0] at hs
            clear hblk hright hw h0
            obtain ⟨fl, cu⟩ := n
            refine wk (wA hc (wA hg (wA hd (wA ea (wA eb wT))))) (wA hs (wA hr (wA hsame (wA holM_NetTR_21 (wA DrM.mk wT))))) ?_
            exact ⟨⟨(i + 1, ⟨fl, cu⟩, S, g), by dsimp only; omega, hok, hsub, by dsimp only; first | omega | (simp only [List.length_append, List.length_singleton]; omega)⟩, hend ⟨fl, cu⟩ S g _ _ (Keeps.kp wT), by dsimp only; omega⟩
      by_cases hk0 : k = 0
      · subst hk0
        have hs := fun H => send_spec n hnL [⟨a % 8, b % 8, d⟩] (by simp) H
        rw [ok_send hok hmk] at hs
        have hsn := mlF_snoc S ⟨a % 8, b % 8, d⟩
        have hml := mlF_length S
        have hbb : (S.length + 1) * 40 ≤ 140737488355328 := by omega
        have hSl : (S ++ [(⟨a % 8, b % 8, d⟩ : Ml)]).length = S.length + 1 := by simp
        have hSm : (⟨a % 8, b % 8, d⟩ : Ml) ∈ S ++ [(⟨a % 8, b % 8, d⟩ : Ml)] := by simp
        have hSs : ∀ x ∈ S, x ∈ S ++ [(⟨a % 8, b % 8, d⟩ : Ml)] := fun x hx => List.mem_append_left _ hx
        by_cases h60 : n.fl.length < 60
        · rw [if_pos h60] at hs
          have hok' := ok_snoc hok h60 hmk
          have hsub' : ∀ x ∈ n.fl ++ [(⟨a % 8, b % 8, d⟩ : Ml)], x ∈ S ++ [(⟨a % 8, b % 8, d⟩ : Ml)] := fun x hx => by
            rcases List.mem_append.1 hx with h | h
            · exact hSs x (hsub x h)
            · rw [List.mem_singleton.1 h]; exact hSm
          have hr := hright _ hok'
          clear hok hnL hblk hright hSm hSs hmk h60
          obtain ⟨fl, cu⟩ := n
          dsimp only at hs hr hok' hsub' hsn
          generalize fl ++ [(⟨a % 8, b % 8, d⟩ : Ml)] = fl' at *
          generalize S ++ [(⟨a % 8, b % 8, d⟩ : Ml)] = S' at *
          have hs' : ∀ H, ASpec Try.prog 9 [.agg [.lst 3 (mlG fl), .lst 2 (ctG cu)], .lst 3 [[vi (a % 8), vi (b % 8), vB d]]] H (Gives (.tup [.agg [.lst 3 (mlG fl'), .lst 2 (ctG cu)], vi 0, vi 0]) H) := hs
          refine wk (wA hc (wA hg (wA hd (wA ea (wA eb (wA hml (wA hbb (wA (Eq.symm hsn) (wA (Eq.symm hSl) wT))))))))) (wA hs' (wA hr (wA holM_NetTR_21 (wA DrM.mk wT)))) ?_
          exact ⟨⟨(i + 1, ⟨fl', cu⟩, S', g + 1), by dsimp only; omega, hok', hsub', by dsimp only; omega⟩, hend ⟨fl', cu⟩ S' (g + 1) _ _ (Keeps.kp wT), by dsimp only; omega⟩
        · rw [if_neg h60] at hs
          have h6 : ¬ (n.fl.length : Int) < 60 := by omega
          have hsub' : ∀ x ∈ n.fl, x ∈ S ++ [(⟨a % 8, b % 8, d⟩ : Ml)] := fun x hx => hSs x (hsub x hx)
          have hr := hright _ hok
          clear hnL hblk hright hSm hSs hmk h60
          obtain ⟨fl, cu⟩ := n
          dsimp only at hs hr hok hsub' hsn h6
          generalize S ++ [(⟨a % 8, b % 8, d⟩ : Ml)] = S' at *
          have hs' : ∀ H, ASpec Try.prog 9 [.agg [.lst 3 (mlG fl), .lst 2 (ctG cu)], .lst 3 [[vi (a % 8), vi (b % 8), vB d]]] H (Gives (.tup [.agg [.lst 3 (mlG fl), .lst 2 (ctG cu)], vi 1, vi 0]) H) := hs
          refine wk (wA hc (wA hg (wA hd (wA ea (wA eb (wA hml (wA hbb (wA h6 (wA (Eq.symm hsn) (wA (Eq.symm hSl) wT)))))))))) (wA hs' (wA hr (wA holM_NetTR_21 (wA DrM.mk wT)))) ?_
          exact ⟨⟨(i + 1, ⟨fl, cu⟩, S', g + 1), by dsimp only; omega, hok, hsub', by dsimp only; omega⟩, hend ⟨fl, cu⟩ S' (g + 1) _ _ (Keeps.kp wT), by dsimp only; omega⟩
      by_cases hk1 : k = 1
      · subst hk1
        have hs := fun H => deliver_spec n hnL a H
        have hask := ok_ask hok a0
        unfold delivN at hs
        by_cases hpl : a < (n.fl.length : Int)
        · rw [if_pos hpl] at hask
          rw [hask, if_pos rfl] at hs
          have hgm : n.fl[a.toNat]? = some n.fl[a.toNat] := List.getElem?_eq_getElem (by omega)
          have hmm : n.fl[a.toNat] ∈ n.fl := List.getElem_mem _
          rw [List.getD_eq_getElem?_getD, hgm, Option.getD_some] at hs
          generalize n.fl[a.toNat] = q at *
          have hqS := hsub q hmm
          have hok' := ok_drop hok a.toNat
          have hsub' := sub_drop hsub a.toNat
          have hr := hright _ hok'
          have hbk := hblk n q.f q.t hok
          generalize dropN n a.toNat = n' at *
          cases hb : blk n q.f q.t
          · rw [hb, if_neg (by simp)] at hs
            rw [hb] at hbk
            clear hok hnL hblk hright hask hgm hmm hb
            obtain ⟨fl, cu⟩ := n
            obtain ⟨fl', cu'⟩ := n'
            dsimp only at hs hbk
            obtain ⟨qf, qt, qd⟩ := q
            have hsm := fun (m : Ml) (H : List Box) => sameMail_spec m ⟨qf, qt, qd⟩ H
            refine wk (wA hc (wA hg (wA hd (wA ea (wA eb wT))))) (wA hs (wA holM_NetTR_21 (wA DrM.mk wT))) ?_
            refine AWP.loop (ι := {k : Nat // k ≤ S.length}) (fun p => ⟨[(0, .lst 4 (tuG l)), (3, .ptr H.length 0 0), (4, .sl (H.length + 1) g 0 S.length 3 false), (5, vi i), (10, .ptr (H.length + 3) 0 0), (15, .ptr (H.length + 4) 0 0), (16, .ptr (H.length + 5) 0 0), (17, vi 0), (18, vb ((S.take p.1).any fun m => decide (m = ⟨qf, qt, qd⟩))), (19, vi p.1)], H ++ [⟨ntC ⟨fl, cu⟩, 0, 0, false⟩, ⟨mlF S, 0, g, true⟩, ⟨mlC ⟨a % 8, b % 8, d⟩, 0, 0, false⟩, ⟨ntC ⟨fl, cu⟩, 0, 0, false⟩, ⟨ntC ⟨fl', cu'⟩, 0, 0, false⟩, ⟨mlC ⟨qf, qt, qd⟩, 0, 0, false⟩]⟩) (fun p => S.length - p.1) ⟨0, Nat.zero_le _⟩ ?_ ?_
            · dsimp only
              rw [List.take_zero, List.any_nil]
              exact Coe.kp
            · rintro ⟨j, hj⟩
              dsimp only
              by_cases hcj : (j : Int) < (S.length : Int)
              · have hgj : S[j]? = some S[j] := List.getElem?_eq_getElem (by omega)
                have htk : ((S.take (j + 1)).any fun m => decide (m = ⟨qf, qt, qd⟩)) = (((S.take j).any fun m => decide (m = ⟨qf, qt, qd⟩)) || decide (S[j] = ⟨qf, qt, qd⟩)) := by rw [List.take_succ_eq_append_getElem (by omega), List.any_append]; simp
                have hrow := mlF_row hgj
                have hmlS := mlF_length S
                have hsj := hsm S[j]
                generalize S[j] = m at *
                generalize decide (m = ⟨qf, qt, qd⟩) = y at *
                generalize ((S.take j).any fun m => decide (m = ⟨qf, qt, qd⟩)) = x at *
                obtain ⟨f, t, dd⟩ := m
                dsimp only at hrow
                cases x
                · rw [Bool.false_or] at htk
                  refine wk (wA hcj (wA hrow (wA hmlS wT))) (wA hsj (wA holM_NetTR_21 (wA DrM.mk wT))) ?_
                  refine ⟨⟨j + 1, by omega⟩, ?_, by dsimp only; omega⟩
                  dsimp only
                  rw [htk]
                  exact Coe.kp
                · rw [Bool.true_or] at htk
                  refine wk (wA hcj wT) (wA holM_NetTR_21 (wA DrM.mk wT)) ?_
                  refine ⟨⟨j + 1, by omega⟩, ?_, by dsimp only; omega⟩
                  dsimp only
                  rw [htk]
                  exact Coe.kp
              · have hjS : j = S.length := by omega
                subst hjS
                rw [List.take_length]
                have hany : (S.any fun m => decide (m = ⟨qf, qt, qd⟩)) = true := List.any_eq_true.2 ⟨⟨qf, qt, qd⟩, hqS, decide_eq_true rfl⟩
                rw [hany]
                refine wk (wA hcj wT) (wA hbk (wA hr (wA holM_NetTR_21 (wA DrM.mk wT)))) ?_
                exact ⟨⟨(i + 1, ⟨fl', cu'⟩, S, g), by dsimp only; omega, hok', hsub', by dsimp only; first | omega | (simp only [List.length_append, List.length_singleton]; omega)⟩, hend ⟨fl', cu'⟩ S g _ _ (Keeps.kp wT), by dsimp only; omega⟩
          · rw [hb, if_pos rfl] at hs
            clear hok hnL hblk hright hask hgm hmm hb hbk hqS q
            generalize mlZ = q at *
            obtain ⟨fl, cu⟩ := n
            obtain ⟨fl', cu'⟩ := n'
            dsimp only at hs
            obtain ⟨qf, qt, qd⟩ := q
            have hsm := fun (m : Ml) (H : List Box) => sameMail_spec m ⟨qf, qt, qd⟩ H
            refine wk (wA hc (wA hg (wA hd (wA ea (wA eb wT))))) (wA hs (wA holM_NetTR_21 (wA DrM.mk wT))) ?_
            refine AWP.loop (ι := {k : Nat // k ≤ S.length}) (fun p => ⟨[(0, .lst 4 (tuG l)), (3, .ptr H.length 0 0), (4, .sl (H.length + 1) g 0 S.length 3 false), (5, vi i), (10, .ptr (H.length + 3) 0 0), (15, .ptr (H.length + 4) 0 0), (16, .ptr (H.length + 5) 0 0), (17, vi 6), (18, vb ((S.take p.1).any fun m => decide (m = ⟨qf, qt, qd⟩))), (19, vi p.1)], H ++ [⟨ntC ⟨fl, cu⟩, 0, 0, false⟩, ⟨mlF S, 0, g, true⟩, ⟨mlC ⟨a % 8, b % 8, d⟩, 0, 0, false⟩, ⟨ntC ⟨fl, cu⟩, 0, 0, false⟩, ⟨ntC ⟨fl', cu'⟩, 0, 0, false⟩, ⟨mlC ⟨qf, qt, qd⟩, 0, 0, false⟩]⟩) (fun p => S.length - p.1) ⟨0, Nat.zero_le _⟩ ?_ ?_
            · dsimp only
              rw [List.take_zero, List.any_nil]
              exact Coe.kp
            · rintro ⟨j, hj⟩
              dsimp only
              by_cases hcj : (j : Int) < (S.length : Int)
              · have hgj : S[j]? = some S[j] := List.getElem?_eq_getElem (by omega)
                have htk : ((S.take (j + 1)).any fun m => decide (m = ⟨qf, qt, qd⟩)) = (((S.take j).any fun m => decide (m = ⟨qf, qt, qd⟩)) || decide (S[j] = ⟨qf, qt, qd⟩)) := by rw [List.take_succ_eq_append_getElem (by omega), List.any_append]; simp
                have hrow := mlF_row hgj
                have hmlS := mlF_length S
                have hsj := hsm S[j]
                generalize S[j] = m at *
                generalize decide (m = ⟨qf, qt, qd⟩) = y at *
                generalize ((S.take j).any fun m => decide (m = ⟨qf, qt, qd⟩)) = x at *
                obtain ⟨f, t, dd⟩ := m
                dsimp only at hrow
                cases x
                · rw [Bool.false_or] at htk
                  refine wk (wA hcj (wA hrow (wA hmlS wT))) (wA hsj (wA holM_NetTR_21 (wA DrM.mk wT))) ?_
                  refine ⟨⟨j + 1, by omega⟩, ?_, by dsimp only; omega⟩
                  dsimp only
                  rw [htk]
                  exact Coe.kp
                · rw [Bool.true_or] at htk
                  refine wk (wA hcj wT) (wA holM_NetTR_21 (wA DrM.mk wT)) ?_
                  refine ⟨⟨j + 1, by omega⟩, ?_, by dsimp only; omega⟩
                  dsimp only
                  rw [htk]
                  exact Coe.kp
              · have hjS : j = S.length := by omega
                subst hjS
                rw [List.take_length]
                generalize (S.any fun m => decide (m = ⟨qf, qt, qd⟩)) = z
                refine wk (wA hcj wT) (wA hr (wA holM_NetTR_21 (wA DrM.mk wT))) ?_
                exact ⟨⟨(i + 1, ⟨fl', cu'⟩, S, g), by dsimp only; omega, hok', hsub', by dsimp only; first | omega | (simp only [List.length_append, List.length_singleton]; omega)⟩, hend ⟨fl', cu'⟩ S g _ _ (Keeps.kp wT), by dsimp only; omega⟩
        · rw [if_neg hpl] at hask
          rw [hask, if_neg (by decide)] at hs
          have hr := hright _ hok
          clear hblk hright hask
          generalize mlZ = q at *
          obtain ⟨fl, cu⟩ := n
          dsimp only at hs
          obtain ⟨qf, qt, qd⟩ := q
          have hsm := fun (m : Ml) (H : List Box) => sameMail_spec m ⟨qf, qt, qd⟩ H
          refine wk (wA hc (wA hg (wA hd (wA ea (wA eb wT))))) (wA hs (wA holM_NetTR_21 (wA DrM.mk wT))) ?_
          refine AWP.loop (ι := {k : Nat // k ≤ S.length}) (fun p => ⟨[(0, .lst 4 (tuG l)), (3, .ptr H.length 0 0), (4, .sl (H.length + 1) g 0 S.length 3 false), (5, vi i), (10, .ptr (H.length + 3) 0 0), (15, .ptr (H.length + 4) 0 0), (16, .ptr (H.length + 5) 0 0), (17, vi 7), (18, vb ((S.take p.1).any fun m => decide (m = ⟨qf, qt, qd⟩))), (19, vi p.1)], H ++ [⟨ntC ⟨fl, cu⟩, 0, 0, false⟩, ⟨mlF S, 0, g, true⟩, ⟨mlC ⟨a % 8, b % 8, d⟩, 0, 0, false⟩, ⟨ntC ⟨fl, cu⟩, 0, 0, false⟩, ⟨ntC ⟨fl, cu⟩, 0, 0, false⟩, ⟨mlC ⟨qf, qt, qd⟩, 0, 0, false⟩]⟩) (fun p => S.length - p.1) ⟨0, Nat.zero_le _⟩ ?_ ?_
          · dsimp only
            rw [List.take_zero, List.any_nil]
            exact Coe.kp
          · rintro ⟨j, hj⟩
            dsimp only
            by_cases hcj : (j : Int) < (S.length : Int)
            · have hgj : S[j]? = some S[j] := List.getElem?_eq_getElem (by omega)
              have htk : ((S.take (j + 1)).any fun m => decide (m = ⟨qf, qt, qd⟩)) = (((S.take j).any fun m => decide (m = ⟨qf, qt, qd⟩)) || decide (S[j] = ⟨qf, qt, qd⟩)) := by rw [List.take_succ_eq_append_getElem (by omega), List.any_append]; simp
              have hrow := mlF_row hgj
              have hmlS := mlF_length S
              have hsj := hsm S[j]
              generalize S[j] = m at *
              generalize decide (m = ⟨qf, qt, qd⟩) = y at *
              generalize ((S.take j).any fun m => decide (m = ⟨qf, qt, qd⟩)) = x at *
              obtain ⟨f, t, dd⟩ := m
              dsimp only at hrow
              cases x
              · rw [Bool.false_or] at htk
                refine wk (wA hcj (wA hrow (wA hmlS wT))) (wA hsj (wA holM_NetTR_21 (wA DrM.mk wT))) ?_
                refine ⟨⟨j + 1, by omega⟩, ?_, by dsimp only; omega⟩
                dsimp only
                rw [htk]
                exact Coe.kp
              · rw [Bool.true_or] at htk
                refine wk (wA hcj wT) (wA holM_NetTR_21 (wA DrM.mk wT)) ?_
                refine ⟨⟨j + 1, by omega⟩, ?_, by dsimp only; omega⟩
                dsimp only
                rw [htk]
                exact Coe.kp
            · have hjS : j = S.length := by omega
              subst hjS
              rw [List.take_length]
              generalize (S.any fun m => decide (m = ⟨qf, qt, qd⟩)) = z
              refine wk (wA hcj wT) (wA hr (wA hsame (wA holM_NetTR_21 (wA DrM.mk wT)))) ?_
              exact ⟨⟨(i + 1, ⟨fl, cu⟩, S, g), by dsimp only; omega, hok, hsub, by dsimp only; first | omega | (simp only [List.length_append, List.length_singleton]; omega)⟩, hend ⟨fl, cu⟩ S g _ _ (Keeps.kp wT), by dsimp only; omega⟩
      have hr := hright _ hok
      clear hblk hright
      obtain ⟨fl, cu⟩ := n
      refine wk (wA hc (wA hg (wA hd (wA ea (wA eb (wA hk0 (wA hk1 (wA hk2 (wA hk3 (wA hk4 (wA hk5 wT))))))))))) (wA hr (wA holM_NetTR_21 (wA DrM.mk wT))) ?_
      exact ⟨⟨(i + 1, ⟨fl, cu⟩, S, g), by dsimp only; omega, hok, hsub, by dsimp only; first | omega | (simp only [List.length_append, List.length_singleton]; omega)⟩, hend ⟨fl, cu⟩ S g _ _ (Keeps.kp wT), by dsimp only; omega⟩
    · have : i = l.length := by omega
      subst this
      obtain ⟨fl, cu⟩ := n
      refine wk (wA hc wT) (wA holM_NetTR_21 (wA DrM.mk wT)) ?_
      refine wkEnd wT ?_
      exact Fin.cut (.v _) ⟨rfl, rfl⟩

end Go.Proofs.Ytnoekcdmaaakfaa.VL

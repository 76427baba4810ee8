/- Layer 18: services in a row of one's own; labels ahead of a domain. -/
import Derived.Test.YtnlmdeeadldgmaaGreatDoorZG29
import Derived.Test.YtnlmdeeadldgmaaGreatDoorZG30
import Derived.Test.YtnlmdeeadldgmaaGreatDoorZG27
import Derived.Test.YtnlmdeeadldgmaaGreatDoorZG28
import Derived.Test.YtnlmdeeadldgmaaGreatDoorZVLWalk
import Derived.Test.YtnlmdeeadldgmaaGreatDoorZG17
-- STEPWISE
-- WK
set_option linter.unusedVariables false
set_option linter.unusedSimpArgs false
set_option maxRecDepth 10000
namespace Go.Proofs.YtnlmdeeadldgmaaGreatDoor.VL
open Go Go.RowKit Go.Lib

theorem below_wor {w w' : World} (h : Below w.heap.size w w') : Wor w w' := ⟨h.os, h.tape, h.output, h.size, fun k c e fr hk => ⟨c, by rw [h.block k (Array.getElem?_eq_some_iff.1 hk).1]; exact hk, rfl⟩, fun k o hk _ => by rw [h.block k (Array.getElem?_eq_some_iff.1 hk).1]; exact hk⟩
/-- A block that a concrete walk made is a box from now on. -/
theorem adopt {base : Nat} {w w' : World} {H : List Box} {β : Pl} (hI : Inv base w H β) (hB : Below w.heap.size w w') (cs : List AV) (k' : Nat) (cur : Array Value) (e : TypeId) (hk : w.heap.size ≤ k') (hh : w'.heap[k']? = some (.cells cur e (0, 0)))
    (hcells : ∀ (j : Nat) (c : AV), cs[j]? = some c → ∃ x, cur[j]? = some x ∧ x.oneCell' = true ∧ ∀ H β, Rep w H β c x) :
    ∃ β', Inv base w' (H ++ [⟨cs, 0, 1, true⟩]) β' ∧ Stp base w H β w' (H ++ [⟨cs, 0, 1, true⟩]) β' ∧ β' H.length = some (k', 0) := by
  obtain ⟨i1, s1⟩ := newv hI 0 0 rfl
  have hb : (H ++ [(⟨[], 0, 0, true⟩ : Box)])[H.length]? = some ⟨[], 0, 0, true⟩ := by simp
  have hkl : k' < w'.heap.size := (Array.getElem?_eq_some_iff.1 hh).1
  have hcell : ∀ j, w'.cell? ⟨k', j, none⟩ = cur[j]? := fun j => by simp [World.cell?, hh]
  have hfz : ∀ x, w'.frozen? ⟨k', x, none⟩ = false := fun x => by simp [World.frozen?, hh]
  have hset : (H ++ [(⟨[], 0, 0, true⟩ : Box)]).set H.length ⟨cs, 0, 1, true⟩ = H ++ [⟨cs, 0, 1, true⟩] := by
    rw [List.set_append_right _ _ (Nat.le_refl _)]; simp
  obtain ⟨i2, s2⟩ := repl (w' := w') (bx' := ⟨cs, 0, 1, true⟩) (k' := k') (s' := 0) i1 hb (below_wor hB) (fun _ _ => False) (fun _ _ h => h.elim) (fun k x hk _ => World.cell?_of_block (hB.block k hk)) ⟨Nat.le_trans hI.bse.le hk, hkl⟩ (Nat.zero_le _) (.inl hk) (by simp) (by simp) (fun _ => hfz)
    (fun j c hj => by
      obtain ⟨x, h1, h2, h3⟩ := hcells j c hj
      exact ⟨x, by rw [Nat.zero_add, hcell]; exact h1, h2, h3 _ _⟩)
  rw [hset] at i2 s2
  exact ⟨_, i2, s1.trans s2, upd_same _ _ _⟩

/-- Services in a row of one's own. -/
abbrev OwnsSv (l : List Sv) (H : List Box) : Out → List Box → Prop := fun o H' => o = .ret (.sl H.length 1 0 l.length 6 false) ∧ H' = H ++ [⟨svF l, 0, 1, true⟩]
theorem svF_get : ∀ (l : List Sv) (i j : Nat), j < 6 → (svF l)[i * 6 + j]? = (l[i]?).bind fun x => (svC x)[j]?
  | [], i, j, _ => by simp [svF, flat]
  | x :: l, 0, j, hj => by
    rw [svF_cons, Nat.zero_mul, Nat.zero_add, List.getElem?_append_left (by simpa using hj)]
    rfl
  | x :: l, i + 1, j, hj => by
    have h6 : (svC x).length = 6 := rfl
    rw [svF_cons, List.getElem?_append_right (by omega), h6, show (i + 1) * 6 + j - 6 = i * 6 + j by omega, svF_get l i j hj]
    rfl
theorem svAllO_spec (es : List En) (hlen : es.length ≤ 1048576) (hs : ∀ x ∈ es, x.s.length ≤ 1099511627776) (H : List Box) : ASpec Tryz.prog 106 [.lst 3 (enG es)] H (OwnsSv (allS es) H) := fun base w β vs hI hr => by
  obtain ⟨v, rfl, hv⟩ := reps1 hr
  obtain ⟨a, cap, rfl, hT⟩ := tabV_of hv
  refine .inl ⟨Tryz.call106 _ w, (callsIn_wide.1 (all_in a cap es hlen hs w hT)).mono ?_⟩
  rintro e W' ⟨v, rfl, ⟨hxl, hown⟩, hB⟩
  unfold allS
  generalize prs es = l at *
  obtain ⟨i1, s1⟩ := below_step hI hB
  rcases hown with ⟨rfl, h0⟩ | ⟨g, cap', cur, rfl, hg, hheap, hncap, _, hsz, htake⟩
  · have : l = [] := List.length_eq_zero_iff.1 h0
    subst this
    obtain ⟨i2, s2⟩ := newv i1 0 1 rfl
    exact ⟨.ret (.sl H.length 1 0 0 6 false), H ++ [⟨svF [], 0, 1, true⟩], _, ⟨rfl, rfl⟩, rep_sl (bx := ⟨svF [], 0, 1, true⟩) (by simp) rfl ⟨none, 0, rfl, Nat.le_refl _, by simp, fun hh => absurd hh (by omega)⟩, i2, s1.trans s2⟩
  · have hget : ∀ i (x : Int × Sv), l[i]? = some x → ∀ j, j < 6 → cur[i * 6 + j]? = (svCells x.2)[j]? := fun i x hi j hj => by
      have hil := (List.getElem?_eq_some_iff.1 hi).1
      have := flatS_get l i j hj
      rw [hi, ← htake, List.getElem?_take_of_lt (by omega), Array.getElem?_toList] at this
      exact this
    obtain ⟨β', i2, s2, hb2⟩ := adopt hI hB (svF (l.map (·.2))) g cur _ hg hheap fun j c hj => by
      have hjl := (List.getElem?_eq_some_iff.1 hj).1
      rw [svF_length, List.length_map] at hjl
      have hq : j / 6 < l.length := by omega
      have hm : j % 6 < 6 := Nat.mod_lt _ (by omega)
      rw [show j = j / 6 * 6 + j % 6 by omega] at hj ⊢
      rw [svF_get _ _ _ hm, List.getElem?_map, List.getElem?_eq_getElem hq] at hj
      have h2 := hget _ _ (List.getElem?_eq_getElem hq) _ hm
      rw [h2]
      generalize l[j / 6] = x at *
      generalize j % 6 = t at *
      simp only [Option.map_some, Option.bind_some] at hj
      rcases t with _ | _ | _ | _ | _ | _ | t
      all_goals first | omega | (simp at hj; subst hj; exact ⟨_, rfl, rfl, fun _ _ => .v _⟩)
    refine ⟨.ret (.sl H.length 1 0 (l.map (·.2)).length 6 false), _, _, ⟨rfl, rfl⟩, rep_sl (bx := ⟨svF (l.map (·.2)), 0, 1, true⟩) (by simp) rfl ⟨_, cap', by rw [List.length_map], by rw [List.length_map]; exact hncap, by simp, fun _ => ⟨g, 0, cur, _, _, hb2, rfl, hheap, by omega⟩⟩, i2, s2⟩

theorem winN_eq (d : List UInt8) (l : List (List UInt8)) : winN d l = if (joinN (l ++ labelsN d)).2 = 0 then (if (lab d).isSome = true then ((joinN (l ++ labelsN d)).1, true) else ([], false)) else ([], false) := by
  unfold winN
  by_cases h1 : (joinN (l ++ labelsN d)).2 = 0
  · by_cases h2 : (lab d).isSome = true
    · rw [if_pos ⟨h2, h1⟩, if_pos h1, if_pos h2]
    · rw [if_neg (fun h => h2 h.1), if_pos h1, if_neg h2]
  · rw [if_neg (fun h => h1 h.2), if_neg h1]
set_option maxHeartbeats 2000000 in
theorem zwithin_spec (s : Sc) (ls : List (List UInt8)) (hd : s.d.length ≤ 9223372036854775807) (h0 : 0 < ls.length) (hl : ls.length ≤ 8) (hs : lenS ls ≤ 16777216) (H : List Box) :
    ASpec Tryz.prog 52 [.agg (scC s), .lst 1 (strG ls)] H (Gives (.tup [vs (winN s.d ls).1, vb (winN s.d ls).2]) H) := by
  have hlb := fun H => labLabels_spec' s.d hd H
  have hrt := fun H => labRight_spec s.d hd H
  have hle := labelsN_le s.d
  have hcat : ∀ H, ASpec Tryz.prog 93 [.lst 1 [[.lst 1 (strG ls)], [.lst 1 (strG (labelsN s.d))]]] H (Gives (.lst 1 (strG (ls ++ labelsN s.d))) H) := fun H => by
    have h := concatS_spec [ls, labelsN s.d] (by simp; omega) (by simp; omega) (by simp) H
    simpa using h
  have hjn := fun H => labJoin_spec (ls ++ labelsN s.d) (by rw [List.length_append]; omega) (by simp only [lenS, List.map_append, List.sum_append] at *; omega) H
  rw [winN_eq]
  obtain ⟨v, a, d⟩ := s
  dsimp only at *
  generalize ls ++ labelsN d = L at *
  generalize labelsN d = M at *
  generalize hJ : joinN L = J at *
  obtain ⟨n, e⟩ := J
  dsimp only at *
  by_cases he : e = 0
  · subst he
    rw [if_pos rfl]
    cases hr : (lab d).isSome with
    | true =>
      rw [if_pos rfl]
      rw [hr] at hrt
      refine ASpec.enter Tryz.func52 rfl (fun a w => Tryz.call52 a w) Tryz.ntmps52 Tryz.results52 fun base w β hI => ?_
      refine wk wT (wA hlb (wA hcat (wA hjn (wA hrt (wA DrM.mk wT))))) ?_
      refine wkEnd wT ?_
      exact Fin.cut (ltVV _ _) ⟨rfl, rfl⟩
    | false =>
      rw [if_neg (by simp)]
      rw [hr] at hrt
      refine ASpec.enter Tryz.func52 rfl (fun a w => Tryz.call52 a w) Tryz.ntmps52 Tryz.results52 fun base w β hI => ?_
      refine wk wT (wA hlb (wA hcat (wA hjn (wA hrt (wA DrM.mk wT))))) ?_
      refine wkEnd wT ?_
      exact Fin.cut (ltVV _ _) ⟨rfl, rfl⟩
  · rw [if_neg he]
    refine ASpec.enter Tryz.func52 rfl (fun a w => Tryz.call52 a w) Tryz.ntmps52 Tryz.results52 fun base w β hI => ?_
    refine wk (wA he wT) (wA hlb (wA hcat (wA hjn (wA DrM.mk wT)))) ?_
    refine wkEnd wT ?_
    exact Fin.cut (ltVV _ _) ⟨rfl, rfl⟩

end Go.Proofs.YtnlmdeeadldgmaaGreatDoor.VL

/- The value logic: a caller's box has changed, and new boxes are forgotten. -/
set_option linter.unusedVariables false
set_option linter.unusedSimpArgs false
set_option maxRecDepth 10000
namespace Go.Proofs.YtnlmdeeadldgmaaGreatDoor.VL
open Go Go.RowKit Go.Lib

/-- The cells of boxes lie below. -/
def LtH (n : Nat) (H : List Box) : Prop := ∀ (i : Nat) (bx : Box), H[i]? = some bx → ∀ (j : Nat) (c : AV), bx.cells[j]? = some c → Lt n c
theorem Ent.ltH (E : Ent) : LtH E.H.length E.H := fun i bx hi j c hj => E.inv.ltCells hi hj
theorem LtH.set {n : Nat} {H : List Box} {k : Nat} {x : Box} (h : LtH n H) (hx : ∀ (j : Nat) (c : AV), x.cells[j]? = some c → Lt n c) : LtH n (H.set k x) := fun i bx hi j c hj => by
  rw [List.getElem?_set] at hi
  split at hi
  · split at hi
    · injection hi with hi; subst hi; exact hx j c hj
    · cases hi
  · exact h i bx hi j c hj
/-- New boxes are forgotten; the caller's may have changed. -/
theorem Fin.cutG {E : Ent} {r : AV} {H' N : List Box} {K : AV → List Box → Prop} (hl : H'.length = E.H.length) (hc : LtH E.H.length H') (hr : Lt E.H.length r) (h : K r H') : Fin E r (H' ++ N) K :=
  ⟨r, H', fun w β v hI hs hr' => by
    obtain ⟨h1, h2, h3⟩ := cut_inv hI hs (by rw [hl]; exact hc) (by omega)
    exact ⟨β, h1, h2, h3 r v (by rw [hl]; exact hr) hr'⟩, h⟩
/-- The same, and a new slice is only read from now on. -/
theorem Fin.frozH {E : Ent} {H' N : List Box} {r r' : AV} {b g n sz : Nat} {full : Bool} {bx : Box} {G : List (List AV)} {K : AV → List Box → Prop} (hl : H'.length = E.H.length) (hlc : LtH E.H.length H') (hb : (H' ++ N)[b]? = some bx) (hge : H'.length ≤ b) (hg : bx.gen = g) (hfit : n * sz ≤ bx.cells.length) (hG : chunk sz n bx.cells = G)
    (hsw : ∀ (w : World) (H : List Box) (β : Pl) (v : Value), (∀ x, Rep w H β (.sl b g 0 n sz full) x → Rep w H β (.lst sz G) x) → Rep w H β r v → Rep w H β r' v) (hlt : Lt 0 r') (h : K r' H') : Fin E r (H' ++ N) K :=
  ⟨r', H', fun w β v hI hs hr => by
    obtain ⟨h1, h2⟩ := freeze_inv hI hb (show 0 + n * sz ≤ bx.cells.length by omega)
    have hbl : b < (H' ++ N).length := (List.getElem?_eq_some_iff.1 hb).1
    have hr' := hsw w _ β v (fun x hx => by
      have hv : Rep w _ β (.lst sz (chunk sz n (bx.cells.drop 0))) x := rep_view (bx := { bx with ro := max bx.ro (0 + n * sz) }) h1 (List.getElem?_set_self hbl) hg (Nat.le_max_right _ _) hx
      rwa [List.drop_zero, hG] at hv) (hr.stp h2)
    have hs' := hs.trans h2
    rw [List.set_append_right _ _ hge] at h1 hs' hr'
    obtain ⟨g1, g2, g3⟩ := cut_inv h1 hs' (by rw [hl]; exact hlc) (by omega)
    exact ⟨β, g1, g2, g3 _ _ (hlt.mono (Nat.zero_le _)) hr'⟩, h⟩


end Go.Proofs.YtnlmdeeadldgmaaGreatDoor.VL

/- Plain: the first place where something holds, and what is left without such. -/
set_option linter.unusedVariables false
set_option linter.unusedSimpArgs false
namespace Go.Proofs.YtnlmdeeadldgmaaGreatDoor.VL
open Go Go.RowKit Go.Lib

theorem ixOf_at {α : Type} (f : α → Bool) : ∀ (l : List α) (i : Nat), (ixOf f l i = -1 ∧ ∀ x ∈ l, f x = false) ∨ ∃ q x, ixOf f l i = ((i + q : Nat) : Int) ∧ l[q]? = some x ∧ f x = true ∧ ∀ y ∈ l.take q, f y = false
  | [], _ => .inl ⟨rfl, by simp⟩
  | x :: l, i => by
    rw [ixOf]
    cases h : f x with
    | true => exact .inr ⟨0, x, by simp, rfl, h, by simp⟩
    | false =>
      simp only [Bool.false_eq_true, if_false]
      rcases ixOf_at f l (i + 1) with ⟨h1, h2⟩ | ⟨q, y, h1, h2, h3, h4⟩
      · refine .inl ⟨h1, fun z hz => ?_⟩
        rcases List.mem_cons.1 hz with rfl | hz
        · exact h
        · exact h2 z hz
      · refine .inr ⟨q + 1, y, by rw [h1]; congr 1; omega, by simpa using h2, h3, fun z hz => ?_⟩
        rw [List.take_succ_cons] at hz
        rcases List.mem_cons.1 hz with rfl | hz
        · exact h
        · exact h4 z hz
theorem filter_all {α : Type} {f : α → Bool} {l : List α} (h : ∀ x ∈ l, f x = false) : l.filter (fun x => !f x) = l := List.filter_eq_self.2 fun x hx => by simp [h x hx]
theorem filter_take {α : Type} {f : α → Bool} {l : List α} {j : Nat} {x : α} (h : l[j]? = some x) : (l.take (j + 1)).filter (fun x => !f x) = (l.take j).filter (fun x => !f x) ++ if f x then [] else [x] := by
  rw [take_snoc h, List.filter_append, List.filter_cons]
  cases hf : f x <;> simp
theorem splice_end (o : Nat) : ∀ (cs l : List AV), o + cs.length = l.length → splice l o cs = l.take o ++ cs := by
  intro cs
  induction cs generalizing o with
  | nil => intro l h; rw [splice, List.take_of_length_le (by simp at h; omega)]; simp
  | cons c cs ih =>
    intro l h
    simp only [List.length_cons] at h
    rw [splice, ih (o + 1) (l.set o c) (by rw [List.length_set]; omega)]
    have hl : o < l.length := by omega
    rw [List.take_succ_eq_append_getElem (by rw [List.length_set]; exact hl), List.getElem_set_self, List.take_set_of_le (Nat.le_refl _)]
    simp
theorem splice_mid (A B C D : List AV) (h : D.length = B.length) : splice (A ++ (B ++ C)) A.length D = A ++ (D ++ C) := by
  apply List.ext_getElem?
  intro t
  rw [splice_get _ _ _ _ (by simp only [List.length_append]; omega)]
  by_cases h1 : t < A.length
  · rw [if_neg (by omega), List.getElem?_append_left h1, List.getElem?_append_left h1]
  · by_cases h2 : t < A.length + D.length
    · rw [if_pos ⟨by omega, h2⟩, List.getElem?_append_right (by omega), List.getElem?_append_left (by omega)]
    · rw [if_neg (by omega), List.getElem?_append_right (by omega), List.getElem?_append_right (by omega), List.getElem?_append_right (by omega), List.getElem?_append_right (by omega), h]
theorem drop_set_lt {α : Type} {l : List α} {i j : Nat} (x : α) (h : i < j) : (l.set i x).drop j = l.drop j := List.drop_set_of_lt h
/-- So many cells, n times. -/
def zrs (z : List AV) (n : Nat) : List AV := flat (List.replicate n z)
theorem zrs_length (z : List AV) (n : Nat) : (zrs z n).length = n * z.length := by simp [zrs, flat]
theorem lt_zrs {z : List AV} {n m : Nat} (h : ∀ c ∈ z, Lt m c) {c : AV} (hc : c ∈ zrs z n) : Lt m c := by
  simp only [zrs, flat, List.mem_flatten, List.mem_replicate] at hc
  obtain ⟨g, ⟨_, rfl⟩, hc⟩ := hc
  exact h c hc

/-- New boxes are forgotten, the caller's have changed. -/
theorem Coe.cutH {E : Ent} {l l' : List (Nat × AV)} {H' N : List Box} (h : Keeps l l') (hl : H'.length = E.H.length) (hlt : ∀ p ∈ l', Lt H'.length p.2) (hc : ∀ (i : Nat) (bx : Box), H'[i]? = some bx → ∀ (j : Nat) (c : AV), bx.cells[j]? = some c → Lt H'.length c) : Coe E ⟨l, H' ++ N⟩ ⟨l', H'⟩ := fun a w ⟨β, hs⟩ => by
  have hinv := hs.inv
  have hstp := hs.stp
  dsimp only at hinv hstp
  obtain ⟨g1, g2, g3⟩ := cut_inv hinv hstp hc (by omega)
  refine ⟨β, ⟨hs.defers, hs.size, g1, g2, fun k => ?_⟩⟩
  have hr := hs.tmps k
  dsimp only at hr
  rcases lk_keep h k with hk | hk
  · dsimp only
    by_cases hdead : lk l' k = .dead
    · rw [hdead]; exact .dead _
    · have : ∃ p ∈ l', p.2 = lk l' k := by
        clear h hr hk hlt
        induction l' with
        | nil => exact absurd rfl hdead
        | cons q r ih =>
          obtain ⟨n, v⟩ := q
          simp only [lk_cons] at hdead ⊢
          by_cases hq : n = k
          · rw [if_pos hq]; exact ⟨(n, v), by simp, rfl⟩
          · rw [if_neg hq] at hdead ⊢
            obtain ⟨p, hp, e⟩ := ih hdead
            exact ⟨p, by simp [hp], e⟩
      obtain ⟨p, hp, e⟩ := this
      have hl := hlt p hp
      rw [e] at hl
      rw [hk] at hl ⊢
      exact g3 _ _ hl hr
  · dsimp only
    rw [hk]; exact .dead _

end Go.Proofs.YtnlmdeeadldgmaaGreatDoor.VL

/- The library's deletion in a row of one's own: []bellwether/api.Named. -/
-- STEPWISE
-- WK
-- HWR
set_option linter.unusedVariables false
set_option linter.unusedSimpArgs false
set_option maxRecDepth 10000
namespace Go.Proofs.YtnlmdeeadldgmaaGreatDoor.VL
open Go Go.RowKit Go.Lib

theorem ndF_drop (l : List Nd) (i : Nat) : (ndF l).drop (i * 4) = ndF (l.drop i) := by
  induction l generalizing i with
  | nil => simp [ndF, flat]
  | cons m l ih =>
    cases i with
    | zero => simp
    | succ i => rw [ndF_cons, Nat.succ_mul, show i * 4 + 4 = 4 + i * 4 by omega, ← List.drop_drop, show (ndC m ++ ndF l).drop 4 = ndF l from rfl, ih, List.drop_succ_cons]
theorem ndF_row {l : List Nd} {i : Nat} {x : Nd} (h : l[i]? = some x) : List.take 4 (List.drop (i * 4) (ndF l)) = ndC x := by
  obtain ⟨hi, he⟩ := List.getElem?_eq_some_iff.1 h
  rw [ndF_drop, List.drop_eq_getElem_cons hi, he, ndF_cons]
  rfl
theorem ndF_set {l : List Nd} {i : Nat} (x : Nd) (hi : i < l.length) : splice (ndF l) (i * 4) (ndC x) = ndF (l.set i x) := by
  have e := List.take_append_drop i l
  have hl : (l.take i).length = i := by rw [List.length_take]; omega
  have e2 : l.drop i = l[i] :: l.drop (i + 1) := List.drop_eq_getElem_cons hi
  have e3 : l.set i x = l.take i ++ x :: l.drop (i + 1) := by rw [List.set_eq_take_append_cons_drop, if_pos hi]
  have e4 : ndF l = ndF (l.take i) ++ (ndC l[i] ++ ndF (l.drop (i + 1))) := by rw [← ndF_cons, ← e2, ← ndF_app, e]
  have hn : (ndF (l.take i)).length = i * 4 := by rw [ndF_length, hl]
  rw [e3, ndF_app, ndF_cons, e4, ← hn]
  exact splice_mid _ _ _ _ rfl

set_option maxHeartbeats 2000000 in
theorem ixONd_spec (f : Nd → Bool) (fid : FuncId) (caps : List AV) (l : List Nd) (hl : l.length ≤ 1048576) (bb g : Nat) (H : List Box) (hb : H[bb]? = some ⟨ndF l, 0, g, true⟩) (hf : ∀ x, x ∈ l → ASpec Tryz.prog fid (.agg (ndC x) :: caps) H (Gives (vb (f x)) H)) :
    ASpec Tryz.prog 104 [.sl bb g 0 l.length 4 false, .fn fid caps] H (Gives (vi (ixOf f l 0)) H) := by
  have hcl := ndF_length l
  refine ASpec.enter Tryz.func104 rfl (fun a w => Tryz.call104 a w) Tryz.ntmps104 Tryz.results104 fun base w β hI => ?_
  refine wk (wA hb wT) (wA DrM.mk wT) ?_
  refine AWP.loop (ι := {i : Nat // i ≤ l.length ∧ ixOf f l 0 = ixOf f (l.drop i) i}) (fun p => ⟨[(0, .sl bb g 0 l.length 4 false), (1, .fn fid caps), (7, vi l.length), (8, vi p.1)], H⟩) (fun p => l.length - p.1) ⟨0, Nat.zero_le _, by rw [List.drop_zero]⟩ ?_ ?_
  · dsimp only
    exact Coe.kp
  · rintro ⟨i, hi, he⟩
    dsimp only
    by_cases hc : (i : Int) < (l.length : Int)
    · have hg : l[i]? = some l[i] := List.getElem?_eq_getElem (by omega)
      have hs := hf l[i] (List.getElem_mem _)
      generalize l[i] = x at hg hs
      have hrow := ndF_row hg
      rw [ixOf_drop _ hg] at he
      by_cases hx : f x = true
      · rw [if_pos hx] at he
        rw [hx] at hs
        rw [he]
        obtain ⟨xn, ⟨xg, xb, xa⟩⟩ := x
        try dsimp only at hrow hs
        refine wk (wA hc (wA hb (wA hcl (wA hrow wT)))) (wA hs (wA DrM.mk wT)) ?_
        refine wkEnd wT ?_
        exact Fin.same ⟨rfl, rfl⟩
      · rw [if_neg hx] at he
        rw [Bool.not_eq_true _ |>.mp hx] at hs
        obtain ⟨xn, ⟨xg, xb, xa⟩⟩ := x
        try dsimp only at hrow hs
        refine wk (wA hc (wA hb (wA hcl (wA hrow wT)))) (wA hs (wA DrM.mk wT)) ?_
        refine ⟨⟨i + 1, by omega, he⟩, ?_, by dsimp only; omega⟩
        dsimp only
        exact Coe.kp
    · rw [List.drop_of_length_le (by omega)] at he
      rw [he]
      refine wk (wA hc wT) (wA DrM.mk wT) ?_
      refine wkEnd wT ?_
      exact Fin.same ⟨rfl, rfl⟩

set_option maxHeartbeats 8000000 in
theorem delONd_spec (f : Nd → Bool) (fid : FuncId) (caps : List AV) (l : List Nd) (hl : l.length ≤ 1048576) (bb g : Nat) (H : List Box) (hcaps : ∀ (i : Nat) (c : AV), caps[i]? = some c → Lt H.length c) (hb : H[bb]? = some ⟨ndF l, 0, g, true⟩)
    (hf : ∀ x, x ∈ l → ∀ H' : List Box, (∀ i bx, i ≠ bb → H[i]? = some bx → H'[i]? = some bx) → ASpec Tryz.prog fid (.agg (ndC x) :: caps) H' (Gives (vb (f x)) H')) :
    ASpec Tryz.prog 98 [.sl bb g 0 l.length 4 false, .fn fid caps] H (fun o H' => o = .ret (.sl bb g 0 (l.filter fun x => !f x).length 4 false) ∧ H' = H.set bb ⟨ndF (l.filter fun x => !f x) ++ zrs [vi 0, vi 0, vi 0, .emp] (l.length - (l.filter fun x => !f x).length), 0, g, true⟩) := by
  have hx := ixONd_spec f fid caps l hl bb g H hb (fun x hx => hf x hx H fun _ _ _ h => h)
  have hbl : bb < H.length := (List.getElem?_eq_some_iff.1 hb).1
  have hs : ∀ x : Box, (H.set bb x)[bb]? = some x := fun x => List.getElem?_set_self hbl
  have hself : H.set bb ⟨ndF l, 0, g, true⟩ = H := by
    apply List.ext_getElem?
    intro k
    by_cases hk : bb = k
    · subst hk; rw [hs, hb]
    · rw [List.getElem?_set_ne hk]
  rcases ixOf_at f l 0 with ⟨h1, h2⟩ | ⟨q, xq, h1, hq, hfq, hbef⟩
  · rw [filter_all h2, Nat.sub_self, show zrs [vi 0, vi 0, vi 0, .emp] 0 = [] from rfl, List.append_nil, hself]
    rw [h1] at hx
    refine ASpec.enter Tryz.func98 rfl (fun a w => Tryz.call98 a w) Tryz.ntmps98 Tryz.results98 fun base w β hI => ?_
    refine wk (wA hb wT) (wA hx (wA DrM.mk wT)) ?_
    refine wkEnd wT ?_
    exact ⟨_, _, Shed.refl _ _ _, rfl, rfl⟩
  · rw [h1, Nat.zero_add] at hx
    have hql := (List.getElem?_eq_some_iff.1 hq).1
    refine ASpec.enter Tryz.func98 rfl (fun a w => Tryz.call98 a w) Tryz.ntmps98 Tryz.results98 fun base w β hI => ?_
    refine wk (wA hb wT) (wA hx (wA DrM.mk wT)) ?_
    refine AWP.loop (ι := {p : Nat × List Nd × Nat // p.1 ≤ l.length ∧ p.2.2 < p.1 ∧ p.2.1.length = l.length ∧ p.2.1.drop p.1 = l.drop p.1 ∧ p.2.1.take p.2.2 = (l.take p.1).filter fun x => !f x})
      (fun p => ⟨[(0, .sl bb g 0 l.length 4 false), (1, .fn fid caps), (5, vi p.1.2.2), (6, vi p.1.1)], H.set bb ⟨ndF p.1.2.1, 0, g, true⟩⟩) (fun p => l.length - p.1.1)
      ⟨(q + 1, l, q), by dsimp only; omega, by dsimp only; omega, rfl, rfl, by dsimp only; rw [filter_take hq, hfq, filter_all hbef]; simp⟩ ?_ ?_
    · dsimp only
      rw [hself]
      exact Coe.kp
    · rintro ⟨⟨j, X, i⟩, hj1, hij, hXl, hXd, hXt⟩
      dsimp only at hj1 hij hXl hXd hXt ⊢
      by_cases hc : (j : Int) < (l.length : Int)
      · have hg : l[j]? = some l[j] := List.getElem?_eq_getElem (by omega)
        have hmem : l[j] ∈ l := List.getElem_mem _
        generalize l[j] = v at hg hmem
        have hgX : X[j]? = some v := by
          have h := congrArg (fun z => z[0]?) hXd
          simp only [List.getElem?_drop, Nat.add_zero] at h
          rw [h]; exact hg
        have hft := filter_take (f := f) hg
        have hrow := ndF_row hgX
        have hxl : (ndF X).length = l.length * 4 := by rw [ndF_length, hXl]
        have hh : ∀ (x y : Box), ASpec Tryz.prog fid (.agg (ndC v) :: caps) (H.set bb x ++ [y]) (Gives (vb (f v)) (H.set bb x ++ [y])) := fun x y => hf v hmem _ fun i bx hi hbx => by
          rw [List.getElem?_append_left (by rw [List.length_set]; exact (List.getElem?_eq_some_iff.1 hbx).1), List.getElem?_set_ne (Ne.symm hi)]; exact hbx
        have hs2 : ∀ (x y : Box), (H.set bb x ++ [y])[bb]? = some x := fun x y => by rw [List.getElem?_append_left (by rw [List.length_set]; exact hbl)]; exact hs x
        have hs3 : ∀ (x y z : Box), (H.set bb x ++ [y]).set bb z = H.set bb z ++ [y] := fun x y z => by rw [List.set_append_left _ _ (by rw [List.length_set]; exact hbl), List.set_set]
        have hst := ndF_set (l := X) (i := i) v (by omega)
        have hcutI : ∀ (Y : List Nd), ∀ (k : Nat) (bx : Box), (H.set bb ⟨ndF Y, 0, g, true⟩)[k]? = some bx → ∀ (t : Nat) (c : AV), bx.cells[t]? = some c → Lt (H.set bb ⟨ndF Y, 0, g, true⟩).length c := fun Y k bx hk t c ht => by
          rw [List.length_set]
          by_cases hkb : k = bb
          · subst hkb
            rw [hs] at hk
            injection hk with hk
            subst hk
            exact lt_ndF (List.mem_of_getElem? ht)
          · rw [List.getElem?_set_ne (Ne.symm hkb)] at hk
            exact hI.ltCells hk ht
        have hcutS : ∀ (Y : List Nd) (a b : Int), ∀ p ∈ [((0 : Nat), AV.sl bb g 0 l.length 4 false), (1, .fn fid caps), (5, vi a), (6, vi b)], Lt (H.set bb ⟨ndF Y, 0, g, true⟩).length p.2 := fun Y a b => by
          rw [List.length_set]
          simp only [List.mem_cons, List.not_mem_nil, or_false, forall_eq_or_imp, forall_eq]
          exact ⟨.sl _ _ _ _ _ _ hbl, .fn _ _ hcaps, .v _, .v _⟩
        cases hfv : f v with
        | true =>
          rw [hfv] at hh hft
          simp only [if_true, List.append_nil] at hft
          obtain ⟨xn, ⟨xg, xb, xa⟩⟩ := v
          try dsimp only at hrow hh
          clear hst
          refine wk (wA hc (wA hs (wA hs2 (wA hs3 (wA hxl (wA hrow wT)))))) (wA hh (wA DrM.mk wT)) ?_
          refine ⟨⟨(j + 1, X, i), by dsimp only; omega, by dsimp only; omega, hXl, ?_, by dsimp only; rw [hft]; exact hXt⟩, ?_, by dsimp only; omega⟩
          · dsimp only
            have h := congrArg (List.drop 1) hXd
            rwa [List.drop_drop, List.drop_drop] at h
          · dsimp only
            exact Coe.cutH (Keeps.kp wT) (by rw [List.length_set]) (hcutS X _ _) (hcutI X)
        | false =>
          rw [hfv] at hh hft
          simp only [Bool.false_eq_true, if_false] at hft
          have hi0 : (0 : Int) ≤ (i : Int) := by omega
          have hil : i < l.length := by omega
          have hX' : (X.set i v).take (i + 1) = (l.take (j + 1)).filter fun x => !f x := by
            rw [hft, ← hXt, List.take_succ_eq_append_getElem (by rw [List.length_set]; omega), List.getElem_set_self, List.take_set_of_le (Nat.le_refl _)]
          have hXd' : (X.set i v).drop (j + 1) = l.drop (j + 1) := by
            rw [List.drop_set_of_lt (by omega)]
            have h := congrArg (List.drop 1) hXd
            rwa [List.drop_drop, List.drop_drop] at h
          obtain ⟨xn, ⟨xg, xb, xa⟩⟩ := v
          try dsimp only at hrow hh hst
          refine wk (wA hc (wA hs (wA hs2 (wA hs3 (wA hxl (wA hrow (wA hi0 (wA hil wT)))))))) (wA hh (wA DrM.mk wT)) ?_
          refine ⟨⟨(j + 1, X.set i ⟨xn, ⟨xg, xb, xa⟩⟩, i + 1), by dsimp only; omega, by dsimp only; omega, by dsimp only; rw [List.length_set]; exact hXl, hXd', hX'⟩, ?_, by dsimp only; omega⟩
          dsimp only
          rw [show (((((ndF X).set (i * 4) (vi xn)).set (i * 4 + 1) (vi xg)).set (i * 4 + 2) (vi xb)).set (i * 4 + 3) (.lst 3 (enG xa))) = ndF (X.set i ⟨xn, ⟨xg, xb, xa⟩⟩) from hst]
          exact Coe.cutH (Keeps.kp wT) (by rw [List.length_set]) (hcutS _ _ _) (hcutI _)
      · have hjn : j = l.length := by omega
        subst hjn
        rw [List.take_length] at hXt
        have hi' : i = (l.filter fun x => !f x).length := by
          have h := congrArg List.length hXt
          rw [List.length_take] at h
          omega
        rw [← hXt, ← hi'] at *
        have hxl : (ndF X).length = l.length * 4 := by rw [ndF_length, hXl]
        have hz0 : (0 : Int) ≤ (i : Int) := by omega
        have hz1 : (i : Int) ≤ (l.length : Int) := by omega
        have hss : ∀ x y : Box, (H.set bb x).set bb y = H.set bb y := fun x y => List.set_set ..
        have hfin : splice (ndF X) (i * 4) (flat (List.replicate (l.length - i) [vi 0, vi 0, vi 0, .emp])) = ndF (X.take i) ++ zrs [vi 0, vi 0, vi 0, .emp] (l.length - i) := by
          have hzl := zrs_length [vi 0, vi 0, vi 0, .emp] (l.length - i)
          simp only [List.length_cons, List.length_nil, Nat.reduceAdd] at hzl
          rw [← zrs, splice_end _ _ _ (by rw [hzl, hxl]; omega)]
          congr 1
          have h := ndF_app (X.take i) (X.drop i)
          rw [List.take_append_drop] at h
          rw [h, List.take_append_of_le_length (by rw [ndF_length, List.length_take]; omega), List.take_of_length_le (by rw [ndF_length, List.length_take]; omega)]
        generalize ndF (X.take i) ++ zrs [vi 0, vi 0, vi 0, .emp] (l.length - i) = Z at *
        have hni : 0 < l.length - i := by omega
        repeat' (first
          | (refine AWP.seq ?_)
          | (refine AWP.block ?_)
          | (refine AWP.region_k fun Q' hQ' => ?_)
          | (refine AWP.draw_k rfl (by kernel_rfl) fun Q' hQ' => ?_)
          | (with_reducible refine aops.step fun T hT => ?_; simp (disch := omega) only [go_sem, Nat.reduceBEq, Nat.reduceLT, Nat.reduceEqDiff, reduceIte, Nat.reduceAdd, Nat.reduceMul, Nat.reduceSub, Nat.reduceLeDiff, Int.reduceToNat, Int.reducePow, Int.reduceLT, Int.reduceEq, Int.reduceBEq, Int.reduceNeg, Nat.reducePow, List.reduceReplicate, Int.reduceLE, hc, hs, hss, hxl, hz0, hz1, hfin, hni, Nat.sub_zero, Bool.false_and])
          | (with_reducible refine qops.step fun T hT => ?_; simp (disch := omega) only [go_sem, Nat.reduceBEq, Nat.reduceLT, Nat.reduceEqDiff, reduceIte, Nat.reduceAdd, Nat.reduceMul, Nat.reduceSub, Nat.reduceLeDiff, Int.reduceToNat, Int.reducePow, Int.reduceLT, Int.reduceEq, Int.reduceBEq, Int.reduceNeg, Nat.reducePow, List.reduceReplicate, Int.reduceLE, hc, hs, hss, hxl, hz0, hz1, hfin, hni, Nat.sub_zero, Bool.false_and])
          | (with_reducible refine aops.nil ?_)
          | (with_reducible refine qops.nil ?_)
          | (with_reducible refine hT _ ?_; clear hT T)
          | (refine AWP.skip ?_; try simp only [AExit.then, AExit.inBlock, reduceIte, Nat.reduceEqDiff])
          | (refine AWP.exit ?_; try simp only [AExit.then, AExit.inBlock, reduceIte, Nat.reduceEqDiff])
          | (refine AWP.ret ?_; try simp only [AExit.then, AExit.inBlock, reduceIte, Nat.reduceEqDiff])
          | (refine AWP.cond rfl (fun h => ?_) (fun h => ?_) <;> (try simp only [decide_eq_true_eq, decide_eq_false_iff_not, Bool.true_eq_false, Bool.false_eq_true] at h) <;> (try contradiction))
          | (refine hQ' _ _ ?_; clear hQ' Q'; try simp only [AExit.then, AExit.inBlock, reduceIte, Nat.reduceEqDiff])
          | (refine hQ' _ ?_; clear hQ' Q'; try simp only [AExit.then, AExit.inBlock, reduceIte, Nat.reduceEqDiff])
          | (with_reducible refine Branch.split (fun h => ?_) (fun h => ?_) <;> (try simp only [decide_eq_true_eq, decide_eq_false_iff_not, Bool.not_true, Bool.not_false, Bool.true_eq_false, Bool.false_eq_true] at h) <;> (try contradiction) <;> (simp (disch := omega) only [go_sem, Nat.reduceBEq, Nat.reduceLT, Nat.reduceEqDiff, reduceIte, Nat.reduceAdd, Nat.reduceMul, Nat.reduceSub, Nat.reduceLeDiff, Int.reduceToNat, Int.reducePow, Int.reduceLT, Int.reduceEq, Int.reduceBEq, Int.reduceNeg, Nat.reducePow, List.reduceReplicate, Int.reduceLE, h, hc, hs, hss, hxl, hz0, hz1, hfin, hni, Nat.sub_zero, Bool.false_and]))
          | (with_reducible intro h; try simp only [h, go_sem, Nat.reduceBEq, Nat.reduceLT, Nat.reduceEqDiff, reduceIte, Nat.reduceAdd, Nat.reduceMul, Nat.reduceSub, Nat.reduceLeDiff, Int.reduceToNat, Int.reducePow, Int.reduceLT, Int.reduceEq, Int.reduceBEq, Int.reduceNeg, Nat.reducePow, List.reduceReplicate, Int.reduceLE, hc, hs, hss, hxl, hz0, hz1, hfin, hni, Nat.sub_zero, Bool.false_and]))
        refine wkEnd wT ?_
        exact ⟨_, _, Shed.refl _ _ _, rfl, rfl⟩

end Go.Proofs.YtnlmdeeadldgmaaGreatDoor.VL

/- Layer 18: the law of what isn't alive. -/
import Derived.Test.YtnlmdeeadldgmaaGreatDoorZZonZA
import Derived.Test.YtnlmdeeadldgmaaGreatDoorZG42
import Derived.Test.YtnlmdeeadldgmaaGreatDoorZG33
-- STEPWISE
-- WK
set_option linter.unusedVariables false
set_option linter.unusedSimpArgs false
set_option maxRecDepth 10000
namespace Go.Proofs.YtnlmdeeadldgmaaGreatDoor.VL
open Go Go.RowKit Go.Lib

theorem rep_sc0 {w : World} {H : List Box} {β : Pl} {a b : AV} {x : Value} (h : Rep w H β (.agg [a, .emp, b]) x) : Rep w H β (.agg [a, .lst 1 [], b]) x := by
  cases h with
  | agg cs vs hl hh =>
    refine .agg _ vs (by simpa using hl) fun i e y he hy => ?_
    rcases i with _ | _ | _ | i
    · exact hh 0 _ _ he hy
    · simp at he
      subst he
      have := hh 1 .emp y rfl hy
      cases this with
      | emp a => exact .lst0 _ _ _
    · exact hh 2 _ _ he hy
    · simp at he

/-- The boxes of the loop, and its slots. -/
abbrev zlM (k : Nat) (s : Sc) (C : List Nd) (g : Nat) : List Box := [⟨scC s, 0, 0, false⟩, ⟨[.lst 4 (ndG s.v), .emp, vs s.d], 0, 0, false⟩, ⟨[.sl (k + 3) g 0 C.length 4 false, .lst 1 (inG s.a), vs s.d], 0, 0, false⟩, ⟨ndF C, 0, g, true⟩]
abbrev zlS (k : Nat) (name : List UInt8) (i : Nat) : List (Nat × AV) := [(1, vs name), (2, .ptr k 0 0), (7, .ptr (k + 2) 0 0), (8, vi i)]
theorem lt_zlM {n k : Nat} (h : k + 4 ≤ n) (s : Sc) (C : List Nd) (g : Nat) : ∀ bx ∈ zlM k s C g, ∀ c ∈ bx.cells, Lt n c := fun bx hbx c hc => by
  simp only [List.mem_cons, List.not_mem_nil, or_false] at hbx
  rcases hbx with rfl | rfl | rfl | rfl
  · exact lt_scC s hc
  · simp at hc
    rcases hc with rfl | rfl | rfl
    · exact lt_nd _
    · exact .emp
    · exact .v _
  · simp at hc
    rcases hc with rfl | rfl | rfl
    · exact .sl _ _ _ _ _ _ (by omega)
    · exact lt_in _
    · exact .v _
  · exact lt_ndF hc
theorem zl_cut {E : Ent} {l : List (Nat × AV)} {s : Sc} {name : List UInt8} {i g : Nat} {C : List Nd} {N : List Box} (hk : Keeps l (zlS E.H.length name i)) :
    Coe E ⟨l, E.H ++ (zlM E.H.length s C g ++ N)⟩ ⟨zlS E.H.length name i, E.H ++ zlM E.H.length s C g⟩ :=
  Coe.cutN (M := zlM E.H.length s C g) hk (fun p hp => by
    simp only [List.mem_cons, List.not_mem_nil, or_false] at hp
    rcases hp with rfl | rfl | rfl | rfl
    · exact .v _
    · exact .ptr _ _ _ (by simp)
    · exact .ptr _ _ _ (by simp)
    · exact .v _) (lt_zlM (by simp) s C g)
theorem zl_end {E : Ent} {l : List (Nat × AV)} {s : Sc} {name : List UInt8} {g : Nat} {C : List Nd} (hk : Keeps l [(1, vs name), (2, .ptr E.H.length 0 0), (7, .ptr (E.H.length + 2) 0 0)]) :
    Coe E ⟨l, E.H ++ zlM E.H.length s C g⟩ ⟨[(1, vs name), (2, .ptr E.H.length 0 0), (7, .ptr (E.H.length + 2) 0 0)], E.H ++ [⟨scC s, 0, 0, false⟩, ⟨[.lst 4 (ndG s.v), .emp, vs s.d], 0, 0, false⟩, ⟨scC ⟨C, s.a, s.d⟩, 0, 0, false⟩]⟩ := by
  refine Coe.trans (Coe.freezeCell (k := E.H.length + 2) (m := E.H.length + 3) (j := 0) (G := ndG C) (zbox _ _ 2 rfl) rfl (zbox _ _ 3 rfl) rfl (by omega) (by dsimp only; rw [ndF_length]; omega) (chunk_ndF C)) ?_
  rw [List.set_append_right _ _ (by omega), List.set_append_right _ _ (by omega), Nat.add_sub_cancel_left, Nat.add_sub_cancel_left]
  refine Coe.cutN (M := [⟨scC s, 0, 0, false⟩, ⟨[.lst 4 (ndG s.v), .emp, vs s.d], 0, 0, false⟩, ⟨scC ⟨C, s.a, s.d⟩, 0, 0, false⟩]) (N := [_]) hk (fun p hp => by
    simp only [List.mem_cons, List.not_mem_nil, or_false] at hp
    rcases hp with rfl | rfl | rfl
    · exact .v _
    · exact .ptr _ _ _ (by simp)
    · exact .ptr _ _ _ (by simp)) fun bx hbx c hc => by
    simp only [List.mem_cons, List.not_mem_nil, or_false] at hbx
    rcases hbx with rfl | rfl | rfl
    · exact lt_scC s hc
    · simp at hc
      rcases hc with rfl | rfl | rfl
      · exact lt_nd _
      · exact .emp
      · exact .v _
    · exact lt_scC _ hc
def cntP (s : Sc) (x : Nd) : Bool := s.a.contains x.n && upE x.s.a
theorem zl_first (H : List Box) (sb db : Box) (b c : AV) : (H ++ [sb, db, ⟨[.emp, b, c], 0, 0, false⟩] ++ [(⟨[], 0, 0, true⟩ : Box)]).set (H.length + 2) ⟨[AV.emp, b, c].set 0 (.sl (H ++ [sb, db, ⟨[.emp, b, c], 0, 0, false⟩]).length 0 0 0 4 false), 0, 0, false⟩ =
    H ++ [sb, db, ⟨[.sl (H.length + 3) 0 0 0 4 false, b, c], 0, 0, false⟩, ⟨[], 0, 0, true⟩] := by
  rw [List.append_assoc, List.set_append_right _ _ (by omega), Nat.add_sub_cancel_left]
  simp

set_option maxHeartbeats 8000000 in
theorem zl_loop (s : Sc) (name : List UInt8) (hv : s.v.length ≤ 1048576) (hx : ∀ x ∈ s.v, NdIn x) (ha : s.a.length ≤ 1048576)
    (E : Ent) (hE : E.n = 114) (Q : AExit → ASt → Prop) (body : Code) (hbody : (Tryz.f4.body).bind firstLoop = some body)
    (hQ : ∀ k g, lk k 1 = vs name → lk k 2 = .ptr E.H.length 0 0 → lk k 7 = .ptr (E.H.length + 2) 0 0 → Q (.exit 0) ⟨k, E.H ++ zlM E.H.length s (cntL s) g⟩) :
    AWP Tryz.prog E (.loop body) Q ⟨[(1, vs name), (2, .ptr E.H.length 0 0), (7, .ptr (E.H.length + 2) 0 0), (8, vi 0)], E.H ++ [⟨scC s, 0, 0, false⟩, ⟨[.lst 4 (ndG s.v), .emp, vs s.d], 0, 0, false⟩, ⟨[.emp, .lst 1 (inG s.a), vs s.d], 0, 0, false⟩]⟩ := by
  have hcl : cntL s = s.v.filter (cntP s) := rfl
  obtain ⟨v, a, d⟩ := s
  obtain ⟨base, ne, w, H, β, hI, ds⟩ := E
  dsimp only at *
  subst hE
  rw [hcl] at hQ
  clear hcl
  dsimp only [firstLoop, Option.bind, Tryz.f4] at hbody
  injection hbody with hbody
  subst hbody
  refine AWP.loop (ι := {p : Nat × Nat // p.1 ≤ v.length}) (fun p => ⟨zlS H.length name p.1.1, H ++ zlM H.length ⟨v, a, d⟩ ((v.take p.1.1).filter (cntP ⟨v, a, d⟩)) p.1.2⟩) (fun p => v.length - p.1.1) ⟨(0, 0), Nat.zero_le _⟩ ?_ ?_
  · dsimp only [List.take_zero, List.filter_nil, List.length_nil]
    refine Coe.trans (Coe.empCell (j := 0) 4 (zbox _ _ 2 rfl) rfl) ?_
    rw [zl_first]
    exact Coe.kp
  · rintro ⟨⟨i, g⟩, hi⟩
    dsimp only at hi ⊢
    by_cases hc : (i : Int) < (v.length : Int)
    · have hg : v[i]? = some v[i] := List.getElem?_eq_getElem (by omega)
      have hxi := hx _ (List.getElem_mem (show i < v.length by omega))
      generalize v[i] = x at hg hxi
      have hsn := filter_snoc (f := cntP ⟨v, a, d⟩) hg
      have hle : ((v.take i).filter (cntP ⟨v, a, d⟩)).length ≤ 1048576 := by
        refine Nat.le_trans (List.length_filter_le _ _) ?_
        rw [List.length_take]; omega
      have hge := fun H => refGet4_spec x.s.a 0 (by have := hxi.a; omega) H
      have hha := fun H => has14_spec a x.n (by omega) H
      have hcp : cntP ⟨v, a, d⟩ x = (a.contains x.n && upE x.s.a) := rfl
      rw [hcp] at hsn
      clear hcp
      unfold upE at hsn
      generalize (v.take i).filter (cntP ⟨v, a, d⟩) = C at *
      generalize hC' : (v.take (i + 1)).filter (cntP ⟨v, a, d⟩) = C' at *
      have hfx := ndF_app C [x]
      have hfl := ndF_length C
      have hcl : (C ++ [x]).length = C.length + 1 := by simp
      obtain ⟨n, ⟨sg, sb, sa⟩⟩ := x
      rw [show ndF [(⟨n, ⟨sg, sb, sa⟩⟩ : Nd)] = [vi n, vi sg, vi sb, .lst 3 (enG sa)] by simp [ndF, flat]] at hfx
      dsimp only at *
      clear hxi hx hQ
      cases hq : a.contains n with
      | false =>
        rw [hq] at hha hsn
        rw [Bool.false_and, if_neg (by simp), List.append_nil] at hsn
        subst hsn
        cases hgx : getE sa 0 with
        | none =>
          rw [hgx] at hge
          have hge : ∀ H, ASpec Tryz.prog 28 [.lst 3 (enG sa), vi 0] H (Gives (.tup [.agg [vi 0, vi 0, vs []], vb false]) H) := hge
          refine wk (wA hc (wA hg wT)) (wA hge (wA hha (wA DrM.mk wT))) ?_
          refine ⟨⟨(i + 1, g), by dsimp only; omega⟩, ?_, by dsimp only; omega⟩
          dsimp only
          rw [hC']
          exact zl_cut (N := [_, _]) (Keeps.kp wT)
        | some e =>
          rw [hgx] at hge
          obtain ⟨ek, ev, es⟩ := e
          have hge : ∀ H, ASpec Tryz.prog 28 [.lst 3 (enG sa), vi 0] H (Gives (.tup [.agg [vi ek, vi ev, vs es], vb true]) H) := hge
          refine wk (wA hc (wA hg wT)) (wA hge (wA hha (wA DrM.mk wT))) ?_
          refine ⟨⟨(i + 1, g), by dsimp only; omega⟩, ?_, by dsimp only; omega⟩
          dsimp only
          rw [hC']
          exact zl_cut (N := [_, _]) (Keeps.kp wT)
      | true =>
        rw [hq] at hha hsn
        rw [Bool.true_and] at hsn
        cases hgx : getE sa 0 with
        | none =>
          rw [hgx] at hge hsn
          have hge : ∀ H, ASpec Tryz.prog 28 [.lst 3 (enG sa), vi 0] H (Gives (.tup [.agg [vi 0, vi 0, vs []], vb false]) H) := hge
          dsimp only at hsn
          rw [if_neg (by simp), List.append_nil] at hsn
          subst hsn
          refine wk (wA hc (wA hg wT)) (wA hge (wA hha (wA DrM.mk wT))) ?_
          refine ⟨⟨(i + 1, g), by dsimp only; omega⟩, ?_, by dsimp only; omega⟩
          dsimp only
          rw [hC']
          exact zl_cut (N := [_, _]) (Keeps.kp wT)
        | some e =>
          rw [hgx] at hge hsn
          obtain ⟨ek, ev, es⟩ := e
          have hge : ∀ H, ASpec Tryz.prog 28 [.lst 3 (enG sa), vi 0] H (Gives (.tup [.agg [vi ek, vi ev, vs es], vb true]) H) := hge
          dsimp only at hsn
          by_cases hes : es = [117, 112]
          · rw [if_pos (by simpa using hes)] at hsn
            rw [← hsn] at hfx hcl
            refine wk (wA hc (wA hg (wA hes (wA (Eq.symm hfx) (wA hfl wT))))) (wA hge (wA hha (wA DrM.mk wT))) ?_
            refine ⟨⟨(i + 1, g + 1), by dsimp only; omega⟩, ?_, by dsimp only; omega⟩
            dsimp only
            rw [hC']
            rw [← hcl]
            exact zl_cut (N := [_, _]) (Keeps.kp wT)
          · rw [if_neg (by simpa using hes), List.append_nil] at hsn
            subst hsn
            refine wk (wA hc (wA hg (wA hes wT))) (wA hge (wA hha (wA DrM.mk wT))) ?_
            refine ⟨⟨(i + 1, g), by dsimp only; omega⟩, ?_, by dsimp only; omega⟩
            dsimp only
            rw [hC']
            exact zl_cut (N := [_, _]) (Keeps.kp wT)
    · have hil : i = v.length := by omega
      subst hil
      rw [List.take_length]
      refine wk (wA hc wT) (wA DrM.mk wT) ?_
      exact hQ _ _ rfl rfl rfl

set_option maxHeartbeats 16000000 in
theorem zoneLiving_spec (s : Sc) (name : List UInt8) (hs : ScAny s) (hn : name.length ≤ 9223372036854775807) (H : List Box) : ASpec Tryz.prog 4 [.agg (scC s), vs name] H (Gives (vb true) H) := by
  have ha := fun H => alive18_spec H
  have g1 := fun H => great18_spec s hs.v hs.n hs.a hs.d H
  have g2 := fun H => right6_spec s.v hs.v hs.n H
  cases hg : great18 s with
  | true =>
    rw [hg] at g1
    obtain ⟨v, a, d⟩ := s
    refine ASpec.enter Tryz.func4 rfl (fun a w => Tryz.call4 a w) Tryz.ntmps4 Tryz.results4 fun base w β hI => ?_
    refine wk wT (wA ha (wA g1 (wA DrM.mk wT))) ?_
    refine wkEnd wT ?_
    exact Fin.cut (.v _) ⟨rfl, rfl⟩
  | false =>
  rw [hg] at g1
  by_cases h5 : (500 : Int) < (name.length : Int)
  · obtain ⟨v, a, d⟩ := s
    refine ASpec.enter Tryz.func4 rfl (fun a w => Tryz.call4 a w) Tryz.ntmps4 Tryz.results4 fun base w β hI => ?_
    refine wk (wA h5 wT) (wA ha (wA g1 (wA DrM.mk wT))) ?_
    refine wkEnd wT ?_
    exact Fin.cut (.v _) ⟨rfl, rfl⟩
  cases hv : ndOk s.v with
  | false =>
    rw [hv] at g2
    obtain ⟨v, a, d⟩ := s
    refine ASpec.enter Tryz.func4 rfl (fun a w => Tryz.call4 a w) Tryz.ntmps4 Tryz.results4 fun base w β hI => ?_
    refine wk (wA h5 wT) (wA ha (wA g1 (wA g2 (wA DrM.mk wT)))) ?_
    refine wkEnd wT ?_
    exact Fin.cut (.v _) ⟨rfl, rfl⟩
  | true =>
  rw [hv] at g2
  obtain ⟨hi, hd, hal, hvl⟩ := sc_in hg hv
  have hdi : ScIn (deadN s) := ⟨hi.v, hi.n, by simp [deadN], hi.d⟩
  have hli : ScIn (lessN s) := ⟨Nat.le_trans (List.length_filter_le _ _) hi.v, fun x hx => hi.c hx, hi.a, hi.d⟩
  have e1 := fun H => tell_spec s name 33 hi hn H
  have e2 := fun H => tell_spec (deadN s) name 33 hdi hn H
  have e3 := fun H => tell_spec (deadN s) name 1 hdi hn H
  have e4 := fun H => counts_spec (deadN s) hdi H
  have e5 := fun H => exists_spec s name hi hn H
  have e6 := fun H => tell_spec (lessN s) name 33 hli hn H
  have e7 := fun H => exists_spec (lessN s) name hli hn H
  have e8 := fun H => refSameR_spec (tellN s name 33) (tellN s name 33) (by have := tellN_len hi name 33; omega) (by have := tellN_len hi name 33; omega) H
  rw [decide_eq_true rfl] at e8
  rw [show tellN (deadN s) name 33 = [] by rw [tellN, tellD_dead s name 33 (by decide) (by decide)]; rfl] at e2
  rw [show tellN (deadN s) name 1 = [] by rw [tellN, tellD_dead s name 1 (by decide) (by decide)]; rfl] at e3
  rw [show numsN (deadN s) = [] by rw [numsN, cntL_dead]; rfl] at e4
  rw [show tellN (lessN s) name 33 = tellN s name 33 by rw [tellN, tellD_less]; rfl] at e6
  rw [existsN_less] at e7
  have e2 : ∀ H, ASpec Tryz.prog 26 [.agg [.lst 4 (ndG s.v), .emp, vs s.d], vs name, vi 33] H (Gives (.lst 5 []) H) := fun H => ASpec.weak0 (fun w H β x hx => rep_sc0 hx) (e2 H)
  have e3 : ∀ H, ASpec Tryz.prog 26 [.agg [.lst 4 (ndG s.v), .emp, vs s.d], vs name, vi 1] H (Gives (.lst 5 []) H) := fun H => ASpec.weak0 (fun w H β x hx => rep_sc0 hx) (e3 H)
  have e4 : ∀ H, ASpec Tryz.prog 21 [.agg [.lst 4 (ndG s.v), .emp, vs s.d]] H (Gives (.lst 1 []) H) := fun H => ASpec.weak0 (fun w H β x hx => rep_sc0 hx) (e4 H)
  have hex : tellN s name 33 ≠ [] → existsN s name = true := fun h => tell_exists fun h2 => h (by rw [tellN, h2]; rfl)
  have hlp := zl_loop s name hi.v hi.n hi.a
  have e6 : ∀ H, ASpec Tryz.prog 26 [.agg (scC ⟨cntL s, s.a, s.d⟩), vs name, vi 33] H (Gives (.lst 5 (rrG (tellN s name 33))) H) := e6
  have e7 : ∀ H, ASpec Tryz.prog 23 [.agg (scC ⟨cntL s, s.a, s.d⟩), vs name] H (Gives (vb (existsN s name)) H) := e7
  generalize tellN s name 33 = L at *
  generalize existsN s name = q at *
  generalize cntL s = C at *
  clear hdi hli hi hd hal hvl hv hg hs
  obtain ⟨v, a, d⟩ := s
  dsimp only at *
  cases L with
  | nil =>
    dsimp only [rrG] at e1 e6 e8
    simp only [List.map_nil] at e1 e6 e8
    refine ASpec.enter Tryz.func4 rfl (fun a w => Tryz.call4 a w) Tryz.ntmps4 Tryz.results4 fun base w β hI => ?_
    refine wk (wA h5 wT) (wA ha (wA g1 (wA g2 (wA e1 (wA e2 (wA e3 (wA e4 (wA DrM.mk wT)))))))) ?_
    refine AWP.coe Coe.kp (hlp ⟨base, 114, w, H, β, hI, []⟩ rfl _ _ rfl ?_)
    intro k g h1 h2 h7
    dsimp only at h2 h7 ⊢
    simp only [AExit.then, AExit.inBlock, reduceIte, Nat.reduceEqDiff]
    refine AWP.coe (zl_end (E := ⟨base, 114, w, H, β, hI, []⟩) (s := ⟨v, a, d⟩) (name := name) (by intro p hp; simp only [List.mem_cons, List.not_mem_nil, or_false] at hp; rcases hp with rfl | rfl | rfl <;> assumption)) ?_
    refine wk wT (wA e1 (wA e6 (wA e8 (wA e5 (wA e7 (wA DrM.mk wT)))))) ?_
    refine wkEnd wT ?_
    exact Fin.cut (.v _) ⟨rfl, rfl⟩
  | cons y L =>
    have hq := hex (by simp)
    subst hq
    have hpos : (0 : Int) < ((rrG (y :: L)).length : Int) := by simp [rrG]
    generalize rrG (y :: L) = G at *
    refine ASpec.enter Tryz.func4 rfl (fun a w => Tryz.call4 a w) Tryz.ntmps4 Tryz.results4 fun base w β hI => ?_
    refine wk (wA h5 (wA hpos wT)) (wA ha (wA g1 (wA g2 (wA e1 (wA e2 (wA e3 (wA e4 (wA e5 (wA DrM.mk wT))))))))) ?_
    refine AWP.coe Coe.kp (hlp ⟨base, 114, w, H, β, hI, []⟩ rfl _ _ rfl ?_)
    intro k g h1 h2 h7
    dsimp only at h2 h7 ⊢
    simp only [AExit.then, AExit.inBlock, reduceIte, Nat.reduceEqDiff]
    refine AWP.coe (zl_end (E := ⟨base, 114, w, H, β, hI, []⟩) (s := ⟨v, a, d⟩) (name := name) (by intro p hp; simp only [List.mem_cons, List.not_mem_nil, or_false] at hp; rcases hp with rfl | rfl | rfl <;> assumption)) ?_
    refine wk wT (wA e1 (wA e6 (wA e8 (wA e5 (wA e7 (wA DrM.mk wT)))))) ?_
    refine wkEnd wT ?_
    exact Fin.cut (.v _) ⟨rfl, rfl⟩

end Go.Proofs.YtnlmdeeadldgmaaGreatDoor.VL

/- Library: strings put together, with a text between each two. -/
import Derived.Test.YtkkhbmpcpilmfaaDoorStrC
import Derived.Lib.MakeNoZero
import Derived.Laws.IdiomCopy
import Derived.Shelf.RegionOpenPlain
-- STEPWISE
set_option linter.unusedVariables false
set_option linter.unusedSimpArgs false
set_option maxRecDepth 1000000
namespace Go.Proofs.YtkkhbmpcpilmfaaDoor.VL
open Go Go.RowKit Go.Lib

set_option maxHeartbeats 2000000 in
theorem grow_run (k n : Nat) (p : Value) (c : Array Value) (fr : Nat × Nat) (w : World) (hbk : w.heap[k]? = some (.cells c 45 fr)) (hc1 : c[1]? = some (.slice none 0 0)) (hfz : w.frozen? ⟨k, 1, none⟩ = false) (hn : n ≤ 281474976710656) :
    Calls Tryd.prog 51 #[.pointer (some ⟨k, 0, none⟩), .int .i64 n] w fun e w' => e = .returned (.tuple #[]) ∧ ∃ cs : Array Value, n ≤ cs.size ∧ w' = ((w.alloc (.cells cs 5)).setCell ⟨k, 1, none⟩ (.slice (some ⟨w.heap.size, 0, none⟩) 0 cs.size)).drew.drew.drew := by
  obtain ⟨cs, hrun, hle, hmax⟩ := Lib.run_makeNoZero (P := Tryd.prog) w.drew #[3] 41 5 Tryd.underlying41 n hn
  have hcall : (callFunc 60 #[.int .i64 n]).run Tryd.prog w.drew = .ok (.value (.slice (some ⟨w.drew.heap.size, 0, none⟩) n cs.size)) (w.drew.drew.drew.alloc (.cells cs 5)) := by
    rw [run_callFunc_extern Tryd.func60 (by kernel_rfl) (by kernel_rfl) (by kernel_rfl) (e := Extern.BytealgMakeNoZero.makeNoZero #[3] #[41]) (by kernel_rfl), hrun]
    rfl
  have hw : IntKind.i64.wrap (n : Int) = n := by rw [IntKind.wrap_i64]; omega
  have hcall2 : (callFunc 60 #[.int .i64 (IntKind.i64.wrap (n : Int))]).run Tryd.prog w.drew = .ok (.value (.slice (some ⟨w.drew.heap.size, 0, none⟩) n cs.size)) (w.drew.drew.drew.alloc (.cells cs 5)) := by rw [hw]; exact hcall
  have hlt : k < w.heap.size := by
    rcases Nat.lt_or_ge k w.heap.size with h' | h'
    · exact h'
    · simp [Array.getElem?_eq_none h'] at hbk
  have cell1 : ∀ W : World, W.heap[k]? = some (.cells c 45 fr) → W.cell? ⟨k, 1, none⟩ = some (.slice none 0 0) := fun W h => by
    simp [World.cell?, h, hc1]
  have c1 : w.drew.cell? ⟨k, 1, none⟩ = some (.slice none 0 0) := cell1 _ hbk
  have c2 : (w.alloc (.cells cs 5)).cell? ⟨k, 1, none⟩ = some (.slice none 0 0) := cell1 _ ((Lib.alloc_old w _ k hlt).trans hbk)
  have f2 : (w.alloc (.cells cs 5)).frozen? ⟨k, 1, none⟩ = false := by
    unfold World.frozen? at hfz ⊢
    dsimp only at hfz ⊢
    rw [Lib.alloc_old w _ k hlt]
    exact hfz
  have hcopy : ∀ W : World, (Builtin.copy_ #[41, 41] 3 #[.slice (some ⟨w.heap.size, 0, none⟩) 0 cs.size, .slice none 0 0]).run Tryd.prog W = .ok (goInt 0) W :=
    fun W => run_copy_none W 41 41 3 5 _ _ 0 cs.size 0 0 Tryd.underlying41 (by kernel_rfl) rfl
  clear hw
  have mixed : Tryd.prog.follows .mixedOrders = true := rfl
  have t37 := Tryd.underlying41
  have t3 := Tryd.underlying3
  have t5 := Tryd.underlying5
  have t72 := Tryd.underlying45
  have t70 := Tryd.underlying43
  have u37 := fun w => run_underlying (w := w) Tryd.underlying41
  have u3 := fun w => run_underlying (w := w) Tryd.underlying3
  have u5 := fun w => run_underlying (w := w) Tryd.underlying5
  have u72 := fun w => run_underlying (w := w) Tryd.underlying45
  have u70 := fun w => run_underlying (w := w) Tryd.underlying43
  have z5 : ∀ w, (Go.sizeOf 5).run Tryd.prog w = .ok 1 w := fun w => (run_sizeOf' Tryd.underlying5 w).trans (by simp only [go_sem])
  have z37 : ∀ w, (Go.sizeOf 41).run Tryd.prog w = .ok 1 w := fun w => (run_sizeOf' Tryd.underlying41 w).trans (by simp only [go_sem])
  have z3 : ∀ w, (Go.sizeOf 3).run Tryd.prog w = .ok 1 w := fun w => (run_sizeOf' Tryd.underlying3 w).trans (by simp only [go_sem])
  have a37 : ∀ w, (isAgg 41).run Tryd.prog w = .ok false w := fun w => by simp [isAgg, u37]
  have hsl : ∀ (W : World) (a : Addr), (Instr.sliceAt 41 (.slice (some a) n cs.size) none (some (.int .i64 0)) none).run Tryd.prog W = .ok (.slice (some a) 0 cs.size) W := fun W a => by
    have hb : (Instr.sliceBounds true n cs.size none (some (.int .i64 0)) none).run Tryd.prog W = .ok (0, 0, cs.size) W := by
      unfold Instr.sliceBounds
      have : (Instr.sliceBound (.int .i64 0) cs.size .sliceAcap).run Tryd.prog W = .ok 0 W := by simp [Instr.sliceBound, asIntOf]
      simp [this]
    simp only [Instr.sliceAt, Instr.slice, Sem.run_bind, u37, Result.andThen_ok, hb, z5, Sem.run_pure, Nat.zero_mul, Nat.sub_zero]
    by_cases h0 : cs.size = 0
    · rw [if_pos h0]
    · rw [if_neg h0]; simp [Addr.add]
  have hcap : ∀ W, (Builtin.cap_ #[41] 3 #[.slice none 0 0]).run Tryd.prog W = .ok (.int .i64 0) W := fun W => by simp [Builtin.cap_, u37, goInt]
  have hlen : ∀ W, (Builtin.len_ #[41] 3 #[.slice none 0 0]).run Tryd.prog W = .ok (.int .i64 0) W := fun W => by simp [Builtin.len_, u37, goInt]
  go_enter Tryd.func51, Tryd.ntmps51
  go_wp2
  go_region_o
  all_goals (go_wp2; go_end0; exact ⟨rfl, cs, hle, by rw [World.setCell_alloc_past _ k 1 _ hlt]⟩)

theorem grow_spec (n : Nat) (h0 : 0 < n) (hn : n ≤ 281474976710656) (H : List Box) : ASpec Tryd.prog 51 [.ptr H.length 0 0, vi n] (H ++ [⟨[.bself H.length 0 45, .v (.slice none 0 0)], 0, 0, false⟩]) (Gives (.tup []) (bldH H 0 [])) := fun base w β vs hI hr => by
  obtain ⟨x0, x1, rfl⟩ : ∃ x0 x1, vs = #[x0, x1] := by
    have := hr.1
    match vs, this with
    | ⟨[x0, x1]⟩, _ => exact ⟨x0, x1, rfl⟩
  have r0 := hr.2 0 _ x0 rfl rfl
  have r1 := hr.2 1 _ x1 rfl rfl
  cases r1
  have hb : (H ++ [(⟨[.bself H.length 0 45, .v (.slice none 0 0)], 0, 0, false⟩ : Box)])[H.length]? = some ⟨[.bself H.length 0 45, .v (.slice none 0 0)], 0, 0, false⟩ := by simp
  obtain ⟨bx, k, s, e1, e2, e3, hv⟩ := live_ptr (by simp [live]) r0
  rw [hb] at e1
  obtain rfl := Option.some.inj e1
  obtain ⟨x, c1, c2, c3⟩ := hI.cells _ _ k s hb e3 0 _ rfl
  obtain ⟨y, d1, d2, d3⟩ := hI.cells _ _ k s hb e3 1 _ rfl
  cases d3
  cases c3 with
  | bself _ _ _ _ bx' hb' hg hx hh =>
    rw [hb] at hb'
    obtain rfl := Option.some.inj hb'
    obtain ⟨k', c, fr, q1, q2, q3, q4⟩ := hh rfl
    rw [e3] at q1
    injection q1 with q1
    injection q1 with q5 q6
    subst q5; subst q6
    simp only [Nat.add_zero, Nat.zero_add] at c1 d1 hv
    subst hv
    have hc1 : c[1]? = some (.slice none 0 0) := by
      unfold World.cell? at d1
      dsimp only at d1
      rw [q3] at d1
      simpa using d1
    have hfz : w.frozen? ⟨k, 1, none⟩ = false := hI.free k 1 ⟨_, _, 0, hb, e3, Nat.zero_le _, .inr (by simp)⟩
    refine .inl ⟨Tryd.call51 _ w, (grow_run k n (.slice none 0 0) c fr w q3 hc1 hfz hn).mono ?_⟩
    rintro e w' ⟨rfl, cs, hle, rfl⟩
    obtain ⟨i1, i2⟩ := newb hI cs 5 ⟨[], 0, 0, true⟩ (Nat.zero_le _) (fun j c hj => by simp at hj)
    rw [List.append_assoc] at i1 i2
    generalize hβ' : upd β (H ++ [(⟨[.bself H.length 0 45, .v (.slice none 0 0)], 0, 0, false⟩ : Box)]).length (w.heap.size, 0) = β' at i1 i2
    have hlen : (H ++ [(⟨[.bself H.length 0 45, .v (.slice none 0 0)], 0, 0, false⟩ : Box)]).length = H.length + 1 := by simp
    rw [hlen] at hβ'
    have hb2 : (H ++ ([(⟨[.bself H.length 0 45, .v (.slice none 0 0)], 0, 0, false⟩ : Box)] ++ [(⟨[], 0, 0, true⟩ : Box)]))[H.length]? = some ⟨[.bself H.length 0 45, .v (.slice none 0 0)], 0, 0, false⟩ := by simp
    have hd2 : (H ++ ([(⟨[.bself H.length 0 45, .v (.slice none 0 0)], 0, 0, false⟩ : Box)] ++ [(⟨[], 0, 0, true⟩ : Box)]))[H.length + 1]? = some ⟨[], 0, 0, true⟩ := by simp
    have e3' : β' H.length = some (k, 0) := by rw [← hβ', upd_ne β _ (by omega)]; exact e3
    have e4' : β' (H.length + 1) = some (w.heap.size, 0) := by rw [← hβ', upd_same]
    have hkl := (hI.real _ _ _ _ hb e3).2
    generalize hw1 : w.alloc (.cells cs 5) = w1 at i1 i2 ⊢
    have hnew : w1.heap[w.heap.size]? = some (.cells cs 5 (0, 0)) := by rw [← hw1]; exact Array.getElem?_push_size
    have hcells := i1.cells _ _ _ _ hb2 e3'
    have hst : w1.setCell ⟨k, 1, none⟩ (.slice (some ⟨w.heap.size, 0, none⟩) 0 cs.size) = stor w1 k 1 [.slice (some ⟨w.heap.size, 0, none⟩) 0 cs.size] := rfl
    rw [hst]
    have hW := Wor.stor [.slice (some ⟨w.heap.size, 0, none⟩) 0 cs.size] w1 k 1
    obtain ⟨z, z1, z2, z3⟩ := hcells 1 _ rfl
    have hex : ∀ j, j < [Value.slice (some ⟨w.heap.size, 0, none⟩) 0 cs.size].length → (w1.cell? ⟨k, 1 + j, none⟩).isSome = true := fun j hj => by
      simp at hj; subst hj
      simp only [Nat.zero_add] at z1
      rw [z1]; rfl
    obtain ⟨f1, f2⟩ := i1.real _ _ _ _ hb2 e3'
    have hset : (H ++ ([(⟨[.bself H.length 0 45, .v (.slice none 0 0)], 0, 0, false⟩ : Box)] ++ [(⟨[], 0, 0, true⟩ : Box)])).set H.length (⟨[.bself H.length 0 45, .bs (H.length + 1) 0 0 5], 0, 0, false⟩ : Box) = bldH H 0 [] := by
      rw [List.set_append_right _ _ (Nat.le_refl _), Nat.sub_self]; rfl
    obtain ⟨g1, g2⟩ := repl (bx' := ⟨[.bself H.length 0 45, .bs (H.length + 1) 0 0 5], 0, 0, false⟩) (k' := k) (s' := 0) i1 hb2 hW (fun k' x => k' = k ∧ x = 1) (fun k' x ⟨a1, a2⟩ => by subst a1; subst a2; exact ⟨0, e3', Nat.zero_le _, .inr (by simp)⟩)
      (fun k' x hk hn => by rw [stor_cell _ w1 k 1 k' x hex, if_neg (by rintro ⟨a1, a2, a3⟩; simp at a3; exact hn ⟨a1, by omega⟩)])
      ⟨f1, Nat.lt_of_lt_of_le f2 hW.size⟩ (Nat.zero_le _) (.inr ⟨0, e3', Nat.le_refl _, Nat.le_refl _, fun h => h, .inr (Nat.le_refl _)⟩) (Nat.le_refl _) (fun _ => e3') (fun h => by omega) (fun j c hj => by
        rw [stor_cell _ w1 k 1 k _ hex]
        rcases j with _ | _ | j
        · rw [if_neg (by rintro ⟨_, a2, _⟩; simp at a2)]
          simp at hj
          subst hj
          exact hcells 0 _ rfl
        · rw [if_pos (by simp)]
          simp at hj
          subst hj
          refine ⟨_, rfl, rfl, .bs _ _ _ _ _ _ hd2 (Nat.le_refl _) ⟨_, _, _, rfl, .inr (by omega)⟩ (fun _ => ⟨_, _, rfl, Nat.zero_le _, by simp, fun _ => ⟨w.heap.size, 0, cs, _, _, e4', rfl, hnew, by omega⟩⟩) fun a m cap ha hc => ?_⟩
          injection ha with a1 a2 a3
          subst a1
          exact ⟨_, cs, (0, 0), rfl, hnew, Nat.le_refl _⟩
        · simp at hj)
    rw [hset] at g1 g2
    generalize hw2 : stor w1 k 1 [.slice (some ⟨w.heap.size, 0, none⟩) 0 cs.size] = w2 at g1 g2 ⊢
    obtain ⟨k1, k2⟩ := still (w' := w2.drew.drew.drew) g1 (((Wor.drawn w2 _).trans (Wor.drawn _ _)).trans (Wor.drawn _ _)) (fun _ _ _ => rfl)
    exact ⟨.ret (.tup []), _, _, ⟨rfl, rfl⟩, .tup [] #[] rfl (by simp), k1, (i2.trans g2).trans k2⟩

set_option maxHeartbeats 1000000 in
theorem growB_spec (n : Nat) (h0 : 0 < n) (hn : n ≤ 281474976710656) (H : List Box) : ASpec Tryd.prog 44 [.ptr H.length 0 0, vi n] (H ++ [⟨[.bself H.length 0 45, .v (.slice none 0 0)], 0, 0, false⟩]) (Gives (.tup []) (bldH H 0 [])) := by
  have hc := copyCheck_spec H.length (.v (.slice none 0 0)) (H ++ [⟨[.bself H.length 0 45, .v (.slice none 0 0)], 0, 0, false⟩]) (by simp)
  have hg := grow_spec n h0 hn H
  have h1 : ¬ (n : Int) < 0 := by omega
  have h2 : (0 : Int) < (n : Int) := by omega
  simp only [bldH, bldB] at hg ⊢
  intro base
  refine acall_body Tryd.func44 rfl (fun a w => Tryd.call44 a w) Tryd.ntmps44 Tryd.results44 (by simp) ?_
  intro w β hI
  simp only [number]
  repeat' (first
    | (refine AWP.seq ?_)
    | (refine AWP.block ?_)
    | (refine AWP.region_k fun Q' hQ' => ?_)
    | (refine AWP.draw_k rfl (by kernel_rfl) fun Q' hQ' => ?_)
    | (with_reducible refine aops.step fun T hT => ?_; simp (disch := omega) only [go_sem, Nat.reduceBEq, Nat.reduceLT, Nat.reduceEqDiff, reduceIte, Nat.reduceAdd, Nat.reduceMul, Nat.reduceSub, Nat.reduceLeDiff, Int.reduceToNat, Int.reducePow, Int.reduceLT, Int.reduceEq, Int.reduceNeg, Nat.reducePow, List.reduceReplicate, Int.reduceLE, h1, h2])
    | (with_reducible refine qops.step fun T hT => ?_; simp (disch := omega) only [go_sem, Nat.reduceBEq, Nat.reduceLT, Nat.reduceEqDiff, reduceIte, Nat.reduceAdd, Nat.reduceMul, Nat.reduceSub, Nat.reduceLeDiff, Int.reduceToNat, Int.reducePow, Int.reduceLT, Int.reduceEq, Int.reduceNeg, Nat.reducePow, List.reduceReplicate, Int.reduceLE, h1, h2])
    | (with_reducible refine aops.nil ?_)
    | (with_reducible refine qops.nil ?_)
    | (with_reducible refine hT _ ?_; clear hT T)
    | (refine AWP.skip ?_; try simp only [AExit.then, AExit.inBlock, reduceIte, Nat.reduceEqDiff])
    | (refine AWP.exit ?_; try simp only [AExit.then, AExit.inBlock, reduceIte, Nat.reduceEqDiff])
    | (refine AWP.ret ?_; try simp only [AExit.then, AExit.inBlock, reduceIte, Nat.reduceEqDiff])
    | (refine AWP.cond rfl (fun h => ?_) (fun h => ?_) <;> (try simp only [decide_eq_true_eq, decide_eq_false_iff_not, Bool.true_eq_false, Bool.false_eq_true] at h) <;> (try contradiction))
    | (refine hQ' _ _ ?_; clear hQ' Q'; try simp only [AExit.then, AExit.inBlock, reduceIte, Nat.reduceEqDiff])
    | (refine hQ' _ ?_; clear hQ' Q'; try simp only [AExit.then, AExit.inBlock, reduceIte, Nat.reduceEqDiff])
    | (with_reducible refine Branch.split (fun h => ?_) (fun h => ?_) <;> (try simp only [decide_eq_true_eq, decide_eq_false_iff_not, Bool.not_true, Bool.not_false, Bool.true_eq_false, Bool.false_eq_true] at h) <;> (try contradiction) <;> (simp (disch := omega) only [go_sem, Nat.reduceBEq, Nat.reduceLT, Nat.reduceEqDiff, reduceIte, Nat.reduceAdd, Nat.reduceMul, Nat.reduceSub, Nat.reduceLeDiff, Int.reduceToNat, Int.reducePow, Int.reduceLT, Int.reduceEq, Int.reduceNeg, Nat.reducePow, List.reduceReplicate, Int.reduceLE, h, h1, h2]))
    | (with_reducible intro h; try simp only [h, go_sem, Nat.reduceBEq, Nat.reduceLT, Nat.reduceEqDiff, reduceIte, Nat.reduceAdd, Nat.reduceMul, Nat.reduceSub, Nat.reduceLeDiff, Int.reduceToNat, Int.reducePow, Int.reduceLT, Int.reduceEq, Int.reduceNeg, Nat.reducePow, List.reduceReplicate, Int.reduceLE, h1, h2])
    | ((first | (with_reducible refine acall.det (hc) ?_) | (with_reducible refine qcall.det (hc) ?_) | (with_reducible refine acall.det (hg) ?_) | (with_reducible refine qcall.det (hg) ?_)); try simp (disch := omega) only [go_sem, Nat.reduceBEq, Nat.reduceLT, Nat.reduceEqDiff, reduceIte, Nat.reduceAdd, Nat.reduceMul, Nat.reduceSub, Nat.reduceLeDiff, Int.reduceToNat, Int.reducePow, Int.reduceLT, Int.reduceEq, Int.reduceNeg, Nat.reducePow, List.reduceReplicate, Int.reduceLE, h1, h2]))
  simp only [bodyQ, go_sem, Nat.reduceBEq, Nat.reduceLT, Nat.reduceEqDiff, reduceIte, Nat.reduceAdd, Nat.reduceMul, Nat.reduceSub, Nat.reduceLeDiff, Int.reduceToNat, Int.reducePow, Int.reduceLT, Int.reduceEq, Int.reduceNeg, Nat.reducePow, List.reduceReplicate, Int.reduceLE]
  exact ⟨_, _, Shed.refl _ _ _, rfl, rfl⟩

/-- Strings with a text between each two. -/
def joinS (sep : List UInt8) : List (List UInt8) → List UInt8
  | [] => []
  | [s] => s
  | s :: r => s ++ sep ++ joinS sep r
def joinW (sep : List UInt8) (r : List (List UInt8)) : List UInt8 := r.flatMap fun s => sep ++ s
theorem joinS_cons (sep s : List UInt8) (r : List (List UInt8)) : joinS sep (s :: r) = s ++ joinW sep r := by
  induction r generalizing s with
  | nil => simp [joinS, joinW]
  | cons t r ih =>
    rw [show joinS sep (s :: t :: r) = s ++ sep ++ joinS sep (t :: r) from rfl, ih t]
    simp [joinW]
theorem joinW_snoc (sep s : List UInt8) (r : List (List UInt8)) : joinW sep (r ++ [s]) = joinW sep r ++ (sep ++ s) := by simp [joinW]
def lenS (l : List (List UInt8)) : Nat := (l.map List.length).sum
theorem lenS_snoc (l : List (List UInt8)) (s : List UInt8) : lenS (l ++ [s]) = lenS l + s.length := by simp [lenS]
theorem lenS_take_le (l : List (List UInt8)) (i : Nat) : lenS (l.take i) ≤ lenS l := by
  have : lenS l = lenS (l.take i) + lenS (l.drop i) := by
    conv => lhs; rw [← List.take_append_drop i l]
    simp only [lenS, List.map_append, List.sum_append]
  omega
theorem take_snoc {α : Type} {l : List α} {i : Nat} {x : α} (h : l[i]? = some x) : l.take (i + 1) = l.take i ++ [x] := by
  obtain ⟨hi, he⟩ := List.getElem?_eq_some_iff.1 h
  rw [List.take_succ_eq_append_getElem hi, he]

end Go.Proofs.YtkkhbmpcpilmfaaDoor.VL

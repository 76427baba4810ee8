/- Layer 15: a table's services, one by one, as the program's own iterator hands them on. -/
import Derived.RangeFuncBox
import Derived.RangeFuncLeaves
import Derived.Shelf.Abstract
import Derived.WalkKit
import Derived.OwnWalkIn
import Derived.TacticsInMore
import Derived.LoopNIn
import Derived.LoopIn
import Derived.Maps.AppendAt
import Derived.Test.YtnoekcdmaaakfaaDoorZSvcE
import Derived.Test.YtnoekcdmaaakfaaDoorZEntM
set_option linter.unusedVariables false
set_option linter.unusedSimpArgs false
set_option maxRecDepth 100000
namespace Go.Proofs.YtnoekcdmaaakfaaDoor.VL
open Go Go.RowKit Go.Lib Go.Shelf
attribute [local go_sem] Oper.semAt_some

/-- A step without boxes leaves all that lay. -/
theorem Stp.below {w w' : World} {β β' : Pl} (h : Stp w.heap.size w [] β w' [] β') : Below w.heap.size w w' := by
  refine ⟨h.os, h.tape, h.output, h.size, fun k hk => ?_⟩
  obtain ⟨o, ho⟩ : ∃ o, w.heap[k]? = some o := ⟨_, Array.getElem?_eq_getElem hk⟩
  rw [ho]
  have keep := fun x => h.keep k x hk (by rintro ⟨i, bx, s, h1, _⟩; simp at h1)
  cases o with
  | cells c e fr =>
    obtain ⟨c', fr', h1, h2, h3, _⟩ := h.shape k c e fr ho
    have h3 := h3 hk
    subst h3
    rw [h1]
    have : c' = c := by
      apply Array.ext_getElem?
      intro i
      have := keep i
      simpa [World.cell?, ho, h1] using this
    rw [this]
  | _ => exact h.other k _ ho (by intro c e fr h; cases h)
theorem rep_v {w : World} {H : List Box} {β : Pl} {x v : Value} (h : Rep w H β (.v x) v) : v = x := by cases h; rfl
theorem rep_vs {w : World} {H : List Box} {β : Pl} {l : List Value} {v : Value} (h : Rep w H β (.agg (l.map .v)) v) : v = .agg l.toArray := by
  cases h with
  | agg cs vs hl h =>
    congr 1
    apply Array.ext
    · simpa using hl.symm
    · intro i h1 h2
      have h3 : (l.map AV.v)[i]? = some (.v (l[i]'(by simpa using h2))) := by simp
      have := rep_v (h i _ _ h3 (Array.getElem?_eq_getElem h1))
      simpa using this
def svVal (s : Sv) : Value := .agg #[.string ⟨s.n.toArray⟩, .string ⟨s.p.toArray⟩, .int .i64 s.o, .int .i64 s.i, .int .i64 s.w, .bool s.l]

theorem decode_calls (v : List UInt8) (hv : v.length ≤ 1099511627776) (W : World) : Calls Tryd.prog 9 #[.string ⟨v.toArray⟩] W fun e w' =>
    e = .returned (.tuple #[svVal (decS v).1, .int .i64 (decS v).2]) ∧ Below W.heap.size W w' := by
  have h := decode_spec v hv [] W.heap.size W (fun _ => none) #[.string ⟨v.toArray⟩] ⟨Nat.le_refl _, by simp, by simp, by simp, by simp, by rintro k x ⟨i, bx, s, h1, _⟩; simp at h1, by simp⟩
    ⟨rfl, fun i c x h1 h2 => by
      rcases i with _ | i
      · simp at h1 h2; subst h1; subst h2; exact .v _
      · simp at h1⟩
  rcases h with ⟨_, h⟩ | ⟨v', w', h, _⟩
  · refine h.mono ?_
    rintro e w' ⟨out, H', β', ⟨rfl, rfl⟩, h3, h4, h5⟩
    refine ⟨?_, h5.below⟩
    cases e with
    | returned r =>
      congr 1
      have h3 : Rep w' [] β' (svV (decS v)) r := h3
      cases h3 with
      | tup cs vs hl h =>
        have e0 := rep_vs (l := [.string ⟨(decS v).1.n.toArray⟩, .string ⟨(decS v).1.p.toArray⟩, .int .i64 (decS v).1.o, .int .i64 (decS v).1.i, .int .i64 (decS v).1.w, .bool (decS v).1.l]) (h 0 _ (vs[0]'(by simp at hl; omega)) rfl (Array.getElem?_eq_getElem _))
        have e1 := rep_v (h 1 _ (vs[1]'(by simp at hl; omega)) rfl (Array.getElem?_eq_getElem _))
        congr 1
        apply Array.ext
        · simpa using hl.symm
        · intro i h1 h2
          rcases i with _ | _ | i
          · simpa [svVal] using e0
          · simpa using e1
          · exact absurd h2 (by simp)
    | panicked c => exact h3.elim
    | outgrown => exact h3.elim
  · rw [Tryd.call9] at h
    cases h

/-- A table's services, with their keys. -/
def prs (l : List En) : List (Int × Sv) := l.filterMap fun x => if 3 ≤ x.k ∧ (decS x.s).2 = 0 then some (x.k, (decS x.s).1) else none
theorem prs_len (l : List En) : (prs l).length ≤ l.length := List.length_filterMap_le _ _
theorem prs_pre (l : List En) (k : Nat) : prs (l.take k) <+: prs l := ⟨prs (l.drop k), by rw [prs, prs, prs, ← List.filterMap_append, List.take_append_drop]⟩
theorem prs_hit {l : List En} {k : Nat} {x : En} (h : l[k]? = some x) (hx : 3 ≤ x.k ∧ (decS x.s).2 = 0) : prs (l.take (k + 1)) = prs (l.take k) ++ [(x.k, (decS x.s).1)] := by
  rw [List.take_add_one, h, prs, prs, List.filterMap_append]
  simp [hx]
theorem prs_miss {l : List En} {k : Nat} {x : En} (h : l[k]? = some x) (hx : ¬ (3 ≤ x.k ∧ (decS x.s).2 = 0)) : prs (l.take (k + 1)) = prs (l.take k) := by
  rw [List.take_add_one, h, prs, prs, List.filterMap_append]
  simp only [Option.toList_some, List.filterMap_cons, if_neg hx, List.filterMap_nil, List.append_nil]
def encP (x : Int × Sv) : Array Value := #[.int .i64 x.1, svVal x.2]
/-- A row's cells hold a table. -/
def Tab (W : World) (b off : Nat) (l : List En) : Prop := ∀ (j : Nat) (x : En), l[j]? = some x → W.cell? ⟨b, off + j * 3, none⟩ = some (.int .i64 x.k) ∧ W.cell? ⟨b, off + j * 3 + 1, none⟩ = some (.int .i64 x.v) ∧ W.cell? ⟨b, off + j * 3 + 2, none⟩ = some (.string ⟨x.s.toArray⟩)
theorem Tab.below {n₀ b off : Nat} {l : List En} {A B : World} (h : Below n₀ A B) (hb : b < n₀) (ht : Tab A b off l) : Tab B b off l := fun j x hj =>
  let ⟨h1, h2, h3⟩ := ht j x hj
  ⟨(h.cell (p := ⟨b, _, none⟩) hb).trans h1, (h.cell (p := ⟨b, _, none⟩) hb).trans h2, (h.cell (p := ⟨b, _, none⟩) hb).trans h3⟩

set_option maxHeartbeats 2000000 in
theorem each1_in (n : Nat) (l Bs n₀ b off cap : Nat) (es : List En) (hlen : es.length ≤ 1099511627776) (hs : ∀ x ∈ es, x.s.length ≤ 1099511627776) (hb : b < n₀) (J Jx : List (Int × Sv) → World → Prop)
    (hJ : ∀ s A B, J s A → Below A.heap.size A B → J s B)
    (hY : ∀ pre x W, J pre W → pre.length < es.length → YieldAt Fence.wide (n - 1) Tryd.prog l (encP x) W fun e W' =>
      (e = .returned (.bool true) ∧ J (pre ++ [x]) W' ∧ Below n₀ W W') ∨ (e = .returned (.bool false) ∧ Jx (pre ++ [x]) W'))
    (W : World) (hn₀ : n₀ ≤ W.heap.size) (hBs : W.cell? ⟨Bs, 0, none⟩ = some (.slice (some ⟨b, off, none⟩) es.length cap)) (hc : Tab W b off es) (h0 : J [] W) :
    CallsIn Fence.wide n Tryd.prog 49 #[.func (.yield l) #[] #[], .pointer (some ⟨Bs, 0, none⟩)] W fun e W' => (∃ v, e = .returned v) ∧
      ((∃ ys, ys = prs es ∧ J ys W') ∨ (∃ pre, pre <+: prs es ∧ Jx pre W')) := by
  refine callsIn_of_wp Tryd.func49 rfl trivial ?_ rfl
  simp only [Tryd.ntmps49, List.size_toArray, List.length_cons, List.length_nil, Nat.reduceAdd, Nat.reduceSub, Array.replicate_succ, Array.replicate_zero, List.push_toArray, List.append_toArray, List.nil_append, List.cons_append]
  gi_wp2
  simp only [undef]
  gi_loopw [9] (fun i wr => ∃ k : Nat, k ≤ es.length ∧ i = .int .i64 k ∧ J (prs (es.take k)) wr ∧ Below n₀ W wr)
    (fun i _ => es.length - (intOf i).toNat)
  case atStart => exact ⟨0, Nat.zero_le _, rfl, h0, Below.refl _ _⟩
  case round =>
    obtain ⟨k, hk, rfl, hJs, hnx⟩ := hrel
    by_cases hlt : k < es.length
    · obtain ⟨x, hx⟩ : ∃ x, es[k]? = some x := ⟨_, List.getElem?_eq_getElem hlt⟩
      have hxs := hs x (List.mem_of_getElem? hx)
      obtain ⟨hc1, hc2, hc3⟩ := (hc.below hnx hb) k x hx
      have hd := fun W => callsIn_wide (n := n - 1).2 (decode_calls x.s hxs W)
      have hhit := prs_hit hx
      have hmiss := prs_miss hx
      generalize decS x.s = d at *
      obtain ⟨⟨dn, dp, d1, d2, d3, d4⟩, de⟩ := d
      dsimp only [svVal] at hd hhit hmiss
      have hn1 : n₀ ≤ wr.heap.size := Nat.le_trans hn₀ hnx.size
      by_cases hk3 : (3 : Int) ≤ x.k
      · by_cases he : de = 0
        · gi_wp2_with (refine ⟨trivial, fun h => absurd h (by decide), ?_⟩; gi_at_call 9; refine (hd _).mono ?_; rintro e w' ⟨rfl, hB⟩; have q1 : w'.cell? ⟨wr.heap.size, 0, none⟩ = some (.int .i64 x.k) := (hB.cell (p := ⟨wr.heap.size, 0, none⟩) (by simp)).trans (by rw [alloc_new]; rfl); have q2 := (alloc_cell w' (Obj.cells #[Value.string { data := dn.toArray }, Value.string { data := dp.toArray }, Value.int IntKind.i64 d1, Value.int IntKind.i64 d2, Value.int IntKind.i64 d3, Value.bool d4] 23) _ 0 (cell_lt q1)).trans q1; have hb3 := (((Below.refl _ wr).alloc (Nat.le_refl _) (Obj.cells #[Value.int IntKind.i64 x.k, Value.int IntKind.i64 x.v, Value.string { data := x.s.toArray }] 40)).trans (hB.mono (by simp))).alloc (Nat.le_of_lt (cell_lt q1)) (Obj.cells #[Value.string { data := dn.toArray }, Value.string { data := dp.toArray }, Value.int IntKind.i64 d1, Value.int IntKind.i64 d2, Value.int IntKind.i64 d3, Value.bool d4] 23); obtain ⟨fn, tmps, assign, body, hy, hR⟩ := hY _ (x.k, ⟨dn, dp, d1, d2, d3, d4⟩) _ (hJ _ _ _ hJs hb3) (Nat.lt_of_le_of_lt (prs_len _) (by simp; omega)); dsimp only [encP, svVal] at hy)
          refine ⟨fun h => absurd h (by decide), hR.mono ?_⟩
          have hh := hhit ⟨hk3, he⟩
          rintro e W3 (⟨rfl, hJ3, hk4⟩ | ⟨rfl, hJx3⟩)
          · gi_wp2
            go_roundw
            case rel => exact ⟨k + 1, by omega, by simp, by rw [hh]; exact hJ3, (hnx.trans (hb3.mono hn1)).trans hk4⟩
            case measure => simp [intOf]; omega
          · gi_wp2
            refine bodyPost_ret (results_none rfl _ _ _) rfl ?_
            exact ⟨⟨_, rfl⟩, .inr ⟨_, by rw [← hh]; exact prs_pre _ _, hJx3⟩⟩
        · gi_wp2_with (refine ⟨trivial, fun h => absurd h (by decide), ?_⟩; gi_at_call 9; refine (hd _).mono ?_; rintro e w' ⟨rfl, hB⟩; have q1 : w'.cell? ⟨wr.heap.size, 0, none⟩ = some (.int .i64 x.k) := (hB.cell (p := ⟨wr.heap.size, 0, none⟩) (by simp)).trans (by rw [alloc_new]; rfl); have q2 := (alloc_cell w' (Obj.cells #[Value.string { data := dn.toArray }, Value.string { data := dp.toArray }, Value.int IntKind.i64 d1, Value.int IntKind.i64 d2, Value.int IntKind.i64 d3, Value.bool d4] 23) _ 0 (cell_lt q1)).trans q1; have hb3 := (((Below.refl _ wr).alloc (Nat.le_refl _) (Obj.cells #[Value.int IntKind.i64 x.k, Value.int IntKind.i64 x.v, Value.string { data := x.s.toArray }] 40)).trans (hB.mono (by simp))).alloc (Nat.le_of_lt (cell_lt q1)) (Obj.cells #[Value.string { data := dn.toArray }, Value.string { data := dp.toArray }, Value.int IntKind.i64 d1, Value.int IntKind.i64 d2, Value.int IntKind.i64 d3, Value.bool d4] 23))
          have hh := hmiss (fun h => he h.2)
          go_roundw
          case rel => exact ⟨k + 1, by omega, by simp, by rw [hh]; exact hJ _ _ _ hJs hb3, hnx.trans (hb3.mono hn1)⟩
          case measure => simp [intOf]; omega
      · gi_wp2_with (refine ⟨trivial, fun h => absurd h (by decide), ?_⟩; gi_at_call 9; refine (hd _).mono ?_; rintro e w' ⟨rfl, hB⟩; have q1 : w'.cell? ⟨wr.heap.size, 0, none⟩ = some (.int .i64 x.k) := (hB.cell (p := ⟨wr.heap.size, 0, none⟩) (by simp)).trans (by rw [alloc_new]; rfl); have q2 := (alloc_cell w' (Obj.cells #[Value.string { data := dn.toArray }, Value.string { data := dp.toArray }, Value.int IntKind.i64 d1, Value.int IntKind.i64 d2, Value.int IntKind.i64 d3, Value.bool d4] 23) _ 0 (cell_lt q1)).trans q1; have hb3 := (((Below.refl _ wr).alloc (Nat.le_refl _) (Obj.cells #[Value.int IntKind.i64 x.k, Value.int IntKind.i64 x.v, Value.string { data := x.s.toArray }] 40)).trans (hB.mono (by simp))).alloc (Nat.le_of_lt (cell_lt q1)) (Obj.cells #[Value.string { data := dn.toArray }, Value.string { data := dp.toArray }, Value.int IntKind.i64 d1, Value.int IntKind.i64 d2, Value.int IntKind.i64 d3, Value.bool d4] 23))
        have hh := hmiss (fun h => by have := h.1; omega)
        go_roundw
        case rel => exact ⟨k + 1, by omega, by simp, by rw [hh]; exact hJ _ _ _ hJs hb3, hnx.trans (hb3.mono hn1)⟩
        case measure => simp [intOf]; omega
    · obtain rfl : k = es.length := by omega
      gi_wp2
      go_end0
      exact ⟨⟨_, rfl⟩, .inl ⟨_, rfl, by rw [List.take_length] at hJs; exact hJs⟩⟩

end Go.Proofs.YtnoekcdmaaakfaaDoor.VL

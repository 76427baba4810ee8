/- Layer 15: a table's services, one by one, as the program's own iterator hands them on. -/
import Derived.RangeFuncBox
import Derived.RangeFuncLeaves
import Derived.Shelf.Abstract
import Derived.WalkKit
import Derived.OwnWalkIn
import Derived.TacticsInMore
import Derived.LoopNIn
import Derived.LoopIn
import Derived.Maps.AppendAt
import Derived.Test.YtnlmdeeadldgmaaGreatDoorZG25
import Derived.Test.YtnlmdeeadldgmaaGreatDoorZG20
import Derived.RangeFuncNested
set_option linter.unusedVariables false
set_option linter.unusedSimpArgs false
set_option maxRecDepth 100000
namespace Go.Proofs.YtnlmdeeadldgmaaGreatDoor.VL
open Go Go.RowKit Go.Lib Go.Shelf
attribute [local go_sem] Oper.semAt_some

/-- A step without boxes leaves all that lay. -/
theorem Stp.below {w w' : World} {β β' : Pl} (h : Stp w.heap.size w [] β w' [] β') : Below w.heap.size w w' := by
  refine ⟨h.os, h.tape, h.output, h.size, fun k hk => ?_⟩
  obtain ⟨o, ho⟩ : ∃ o, w.heap[k]? = some o := ⟨_, Array.getElem?_eq_getElem hk⟩
  rw [ho]
  have keep := fun x => h.keep k x hk (by rintro ⟨i, bx, s, h1, _⟩; simp at h1)
  cases o with
  | cells c e fr =>
    obtain ⟨c', fr', h1, h2, h3, _⟩ := h.shape k c e fr ho
    have h3 := h3 hk
    subst h3
    rw [h1]
    have : c' = c := by
      apply Array.ext_getElem?
      intro i
      have := keep i
      simpa [World.cell?, ho, h1] using this
    rw [this]
  | _ => exact h.other k _ ho (by intro c e fr h; cases h)
theorem rep_v {w : World} {H : List Box} {β : Pl} {x v : Value} (h : Rep w H β (.v x) v) : v = x := by cases h; rfl
theorem rep_vs {w : World} {H : List Box} {β : Pl} {l : List Value} {v : Value} (h : Rep w H β (.agg (l.map .v)) v) : v = .agg l.toArray := by
  cases h with
  | agg cs vs hl h =>
    congr 1
    apply Array.ext
    · simpa using hl.symm
    · intro i h1 h2
      have h3 : (l.map AV.v)[i]? = some (.v (l[i]'(by simpa using h2))) := by simp
      have := rep_v (h i _ _ h3 (Array.getElem?_eq_getElem h1))
      simpa using this
def svVal (s : Sv) : Value := .agg #[.string ⟨s.n.toArray⟩, .string ⟨s.p.toArray⟩, .int .i64 s.o, .int .i64 s.i, .int .i64 s.w, .bool s.l]

theorem svDecode_calls (v : List UInt8) (hv : v.length ≤ 1099511627776) (W : World) : Calls Tryz.prog 153 #[.string ⟨v.toArray⟩] W fun e w' =>
    e = .returned (.tuple #[svVal (decS v).1, .int .i64 (decS v).2]) ∧ Below W.heap.size W w' := by
  have h := svDecode_spec v hv [] W.heap.size W (fun _ => none) #[.string ⟨v.toArray⟩] ⟨⟨Nat.le_refl _, fun g j v h => by simp [gvals] at h⟩, by simp, by simp, by simp, by simp, by rintro k x ⟨i, bx, s, h1, _⟩; simp at h1, by simp⟩
    ⟨rfl, fun i c x h1 h2 => by
      rcases i with _ | i
      · simp at h1 h2; subst h1; subst h2; exact .v _
      · simp at h1⟩
  rcases h with ⟨_, h⟩ | ⟨v', w', h, _⟩
  · refine h.mono ?_
    rintro e w' ⟨out, H', β', ⟨rfl, rfl⟩, h3, h4, h5⟩
    refine ⟨?_, h5.below⟩
    cases e with
    | returned r =>
      congr 1
      have h3 : Rep w' [] β' (svV (decS v)) r := h3
      cases h3 with
      | tup cs vs hl h =>
        have e0 := rep_vs (l := [.string ⟨(decS v).1.n.toArray⟩, .string ⟨(decS v).1.p.toArray⟩, .int .i64 (decS v).1.o, .int .i64 (decS v).1.i, .int .i64 (decS v).1.w, .bool (decS v).1.l]) (h 0 _ (vs[0]'(by simp at hl; omega)) rfl (Array.getElem?_eq_getElem _))
        have e1 := rep_v (h 1 _ (vs[1]'(by simp at hl; omega)) rfl (Array.getElem?_eq_getElem _))
        congr 1
        apply Array.ext
        · simpa using hl.symm
        · intro i h1 h2
          rcases i with _ | _ | i
          · simpa [svVal] using e0
          · simpa using e1
          · exact absurd h2 (by simp)
    | panicked c => exact h3.elim
    | outgrown => exact h3.elim
  · rw [Tryz.call153] at h
    cases h

/-- A table's services, with their keys. -/
def prs (l : List En) : List (Int × Sv) := l.filterMap fun x => if 3 ≤ x.k ∧ (decS x.s).2 = 0 then some (x.k, (decS x.s).1) else none
theorem prs_len (l : List En) : (prs l).length ≤ l.length := List.length_filterMap_le _ _
theorem prs_pre (l : List En) (k : Nat) : prs (l.take k) <+: prs l := ⟨prs (l.drop k), by rw [prs, prs, prs, ← List.filterMap_append, List.take_append_drop]⟩
theorem prs_hit {l : List En} {k : Nat} {x : En} (h : l[k]? = some x) (hx : 3 ≤ x.k ∧ (decS x.s).2 = 0) : prs (l.take (k + 1)) = prs (l.take k) ++ [(x.k, (decS x.s).1)] := by
  rw [List.take_add_one, h, prs, prs, List.filterMap_append]
  simp [hx]
theorem prs_miss {l : List En} {k : Nat} {x : En} (h : l[k]? = some x) (hx : ¬ (3 ≤ x.k ∧ (decS x.s).2 = 0)) : prs (l.take (k + 1)) = prs (l.take k) := by
  rw [List.take_add_one, h, prs, prs, List.filterMap_append]
  simp only [Option.toList_some, List.filterMap_cons, if_neg hx, List.filterMap_nil, List.append_nil]
def encP (x : Int × Sv) : Array Value := #[.int .i64 x.1, svVal x.2]
/-- A row's cells hold a table. -/
def Tab (W : World) (b off : Nat) (l : List En) : Prop := ∀ (j : Nat) (x : En), l[j]? = some x → W.cell? ⟨b, off + j * 3, none⟩ = some (.int .i64 x.k) ∧ W.cell? ⟨b, off + j * 3 + 1, none⟩ = some (.int .i64 x.v) ∧ W.cell? ⟨b, off + j * 3 + 2, none⟩ = some (.string ⟨x.s.toArray⟩)
theorem Tab.below {n₀ b off : Nat} {l : List En} {A B : World} (h : Below n₀ A B) (hb : b < n₀) (ht : Tab A b off l) : Tab B b off l := fun j x hj =>
  let ⟨h1, h2, h3⟩ := ht j x hj
  ⟨(h.cell (p := ⟨b, _, none⟩) hb).trans h1, (h.cell (p := ⟨b, _, none⟩) hb).trans h2, (h.cell (p := ⟨b, _, none⟩) hb).trans h3⟩

set_option maxHeartbeats 2000000 in
theorem each1_in (n : Nat) (l Bs n₀ b off cap : Nat) (es : List En) (hlen : es.length ≤ 1099511627776) (hs : ∀ x ∈ es, x.s.length ≤ 1099511627776) (hb : b < n₀) (J Jx : List (Int × Sv) → World → Prop)
    (hJ : ∀ s A B, J s A → Below A.heap.size A B → J s B)
    (hY : ∀ pre x W, J pre W → pre.length < es.length → YieldAt Fence.wide (n - 1) Tryz.prog l (encP x) W fun e W' =>
      (e = .returned (.bool true) ∧ J (pre ++ [x]) W' ∧ Below n₀ W W') ∨ (e = .returned (.bool false) ∧ Jx (pre ++ [x]) W'))
    (W : World) (hn₀ : n₀ ≤ W.heap.size) (hBs : W.cell? ⟨Bs, 0, none⟩ = some (.slice (some ⟨b, off, none⟩) es.length cap)) (hc : Tab W b off es) (h0 : J [] W) :
    CallsIn Fence.wide n Tryz.prog 152 #[.func (.yield l) #[] #[], .pointer (some ⟨Bs, 0, none⟩)] W fun e W' => (∃ v, e = .returned v) ∧
      ((∃ ys, ys = prs es ∧ J ys W') ∨ (∃ pre, pre <+: prs es ∧ Jx pre W')) := by
  refine callsIn_of_wp Tryz.func152 rfl trivial ?_ rfl
  simp only [Tryz.ntmps152, List.size_toArray, List.length_cons, List.length_nil, Nat.reduceAdd, Nat.reduceSub, Array.replicate_succ, Array.replicate_zero, List.push_toArray, List.append_toArray, List.nil_append, List.cons_append]
  gi_wp2
  simp only [undef]
  gi_loopw [9] (fun i wr => ∃ k : Nat, k ≤ es.length ∧ i = .int .i64 k ∧ J (prs (es.take k)) wr ∧ Below n₀ W wr)
    (fun i _ => es.length - (intOf i).toNat)
  case atStart => exact ⟨0, Nat.zero_le _, rfl, h0, Below.refl _ _⟩
  case round =>
    obtain ⟨k, hk, rfl, hJs, hnx⟩ := hrel
    by_cases hlt : k < es.length
    · obtain ⟨x, hx⟩ : ∃ x, es[k]? = some x := ⟨_, List.getElem?_eq_getElem hlt⟩
      have hxs := hs x (List.mem_of_getElem? hx)
      obtain ⟨hc1, hc2, hc3⟩ := (hc.below hnx hb) k x hx
      have hd := fun W => callsIn_wide (n := n - 1).2 (svDecode_calls x.s hxs W)
      have hhit := prs_hit hx
      have hmiss := prs_miss hx
      generalize decS x.s = d at *
      obtain ⟨⟨dn, dp, d1, d2, d3, d4⟩, de⟩ := d
      dsimp only [svVal] at hd hhit hmiss
      have hn1 : n₀ ≤ wr.heap.size := Nat.le_trans hn₀ hnx.size
      by_cases hk3 : (3 : Int) ≤ x.k
      · by_cases he : de = 0
        · gi_wp2_with (refine ⟨trivial, fun h => absurd h (by decide), ?_⟩; gi_at_call 153; refine (hd _).mono ?_; rintro e w' ⟨rfl, hB⟩; have q1 : w'.cell? ⟨wr.heap.size, 0, none⟩ = some (.int .i64 x.k) := (hB.cell (p := ⟨wr.heap.size, 0, none⟩) (by simp)).trans (by rw [alloc_new]; rfl); have q2 := (alloc_cell w' (Obj.cells #[Value.string { data := dn.toArray }, Value.string { data := dp.toArray }, Value.int IntKind.i64 d1, Value.int IntKind.i64 d2, Value.int IntKind.i64 d3, Value.bool d4] 77) _ 0 (cell_lt q1)).trans q1; have hb3 := (((Below.refl _ wr).alloc (Nat.le_refl _) (Obj.cells #[Value.int IntKind.i64 x.k, Value.int IntKind.i64 x.v, Value.string { data := x.s.toArray }] 48)).trans (hB.mono (by simp))).alloc (Nat.le_of_lt (cell_lt q1)) (Obj.cells #[Value.string { data := dn.toArray }, Value.string { data := dp.toArray }, Value.int IntKind.i64 d1, Value.int IntKind.i64 d2, Value.int IntKind.i64 d3, Value.bool d4] 77); obtain ⟨fn, tmps, assign, body, hy, hR⟩ := hY _ (x.k, ⟨dn, dp, d1, d2, d3, d4⟩) _ (hJ _ _ _ hJs hb3) (Nat.lt_of_le_of_lt (prs_len _) (by simp; omega)); dsimp only [encP, svVal] at hy)
          refine ⟨fun h => absurd h (by decide), hR.mono ?_⟩
          have hh := hhit ⟨hk3, he⟩
          rintro e W3 (⟨rfl, hJ3, hk4⟩ | ⟨rfl, hJx3⟩)
          · gi_wp2
            go_roundw
            case rel => exact ⟨k + 1, by omega, by simp, by rw [hh]; exact hJ3, (hnx.trans (hb3.mono hn1)).trans hk4⟩
            case measure => simp [intOf]; omega
          · gi_wp2
            refine bodyPost_ret (results_none rfl _ _ _) rfl ?_
            exact ⟨⟨_, rfl⟩, .inr ⟨_, by rw [← hh]; exact prs_pre _ _, hJx3⟩⟩
        · gi_wp2_with (refine ⟨trivial, fun h => absurd h (by decide), ?_⟩; gi_at_call 153; refine (hd _).mono ?_; rintro e w' ⟨rfl, hB⟩; have q1 : w'.cell? ⟨wr.heap.size, 0, none⟩ = some (.int .i64 x.k) := (hB.cell (p := ⟨wr.heap.size, 0, none⟩) (by simp)).trans (by rw [alloc_new]; rfl); have q2 := (alloc_cell w' (Obj.cells #[Value.string { data := dn.toArray }, Value.string { data := dp.toArray }, Value.int IntKind.i64 d1, Value.int IntKind.i64 d2, Value.int IntKind.i64 d3, Value.bool d4] 77) _ 0 (cell_lt q1)).trans q1; have hb3 := (((Below.refl _ wr).alloc (Nat.le_refl _) (Obj.cells #[Value.int IntKind.i64 x.k, Value.int IntKind.i64 x.v, Value.string { data := x.s.toArray }] 48)).trans (hB.mono (by simp))).alloc (Nat.le_of_lt (cell_lt q1)) (Obj.cells #[Value.string { data := dn.toArray }, Value.string { data := dp.toArray }, Value.int IntKind.i64 d1, Value.int IntKind.i64 d2, Value.int IntKind.i64 d3, Value.bool d4] 77))
          have hh := hmiss (fun h => he h.2)
          go_roundw
          case rel => exact ⟨k + 1, by omega, by simp, by rw [hh]; exact hJ _ _ _ hJs hb3, hnx.trans (hb3.mono hn1)⟩
          case measure => simp [intOf]; omega
      · gi_wp2_with (refine ⟨trivial, fun h => absurd h (by decide), ?_⟩; gi_at_call 153; refine (hd _).mono ?_; rintro e w' ⟨rfl, hB⟩; have q1 : w'.cell? ⟨wr.heap.size, 0, none⟩ = some (.int .i64 x.k) := (hB.cell (p := ⟨wr.heap.size, 0, none⟩) (by simp)).trans (by rw [alloc_new]; rfl); have q2 := (alloc_cell w' (Obj.cells #[Value.string { data := dn.toArray }, Value.string { data := dp.toArray }, Value.int IntKind.i64 d1, Value.int IntKind.i64 d2, Value.int IntKind.i64 d3, Value.bool d4] 77) _ 0 (cell_lt q1)).trans q1; have hb3 := (((Below.refl _ wr).alloc (Nat.le_refl _) (Obj.cells #[Value.int IntKind.i64 x.k, Value.int IntKind.i64 x.v, Value.string { data := x.s.toArray }] 48)).trans (hB.mono (by simp))).alloc (Nat.le_of_lt (cell_lt q1)) (Obj.cells #[Value.string { data := dn.toArray }, Value.string { data := dp.toArray }, Value.int IntKind.i64 d1, Value.int IntKind.i64 d2, Value.int IntKind.i64 d3, Value.bool d4] 77))
        have hh := hmiss (fun h => by have := h.1; omega)
        go_roundw
        case rel => exact ⟨k + 1, by omega, by simp, by rw [hh]; exact hJ _ _ _ hJs hb3, hnx.trans (hb3.mono hn1)⟩
        case measure => simp [intOf]; omega
    · obtain rfl : k = es.length := by omega
      gi_wp2
      go_end0
      exact ⟨⟨_, rfl⟩, .inl ⟨_, rfl, by rw [List.take_length] at hJs; exact hJs⟩⟩

end Go.Proofs.YtnlmdeeadldgmaaGreatDoor.VL

/- Layer 15: all services of a table, as the program collects them. -/
set_option linter.unusedVariables false
set_option linter.unusedSimpArgs false
set_option maxRecDepth 100000
namespace Go.Proofs.YtnlmdeeadldgmaaGreatDoor.VL
open Go Go.RowKit Go.Lib Go.Shelf
attribute [local go_sem] Oper.semAt_some

/-- A slice value over a table in blocks below n₀. -/
def TabV (n₀ : Nat) (W : World) (a : Option Addr) (es : List En) : Prop :=
  es = [] ∨ ∃ b off, a = some ⟨b, off, none⟩ ∧ b < n₀ ∧ Tab W b off es
theorem TabV.below {n₀ : Nat} {A B : World} (h : Below n₀ A B) {a : Option Addr} {es : List En} : TabV n₀ A a es → TabV n₀ B a es
  | .inl e => .inl e
  | .inr ⟨b, off, e, hb, hc⟩ => .inr ⟨b, off, e, hb, hc.below h hb⟩

set_option maxHeartbeats 2000000 in
theorem each1_nil (n : Nat) (l Bs : Nat) (a : Option Addr) (cap : Nat) (J : List (Int × Sv) → World → Prop)
    (W : World) (hBs : W.cell? ⟨Bs, 0, none⟩ = some (.slice a 0 cap)) (h0 : J [] W) :
    CallsIn Fence.wide n Tryz.prog 152 #[.func (.yield l) #[] #[], .pointer (some ⟨Bs, 0, none⟩)] W fun e W' => (∃ v, e = .returned v) ∧ J [] W' := by
  refine callsIn_of_wp Tryz.func152 rfl trivial ?_ rfl
  simp only [Tryz.ntmps152, List.size_toArray, List.length_cons, List.length_nil, Nat.reduceAdd, Nat.reduceSub, Array.replicate_succ, Array.replicate_zero, List.push_toArray, List.append_toArray, List.nil_append, List.cons_append]
  gi_wp2
  simp only [undef]
  gi_loopw [9] (fun i wr => i = .int .i64 0 ∧ J [] wr) (fun _ _ => 0)
  case atStart => exact ⟨rfl, h0⟩
  case round =>
    obtain ⟨rfl, hJs⟩ := hrel
    gi_wp2
    go_end0
    exact ⟨⟨_, rfl⟩, hJs⟩

theorem each_stops (n : Nat) (Bn n₀ : Nat) (a : Option Addr) (cap : Nat) (es : List En) (hlen : es.length ≤ 1099511627776) (hs : ∀ x ∈ es, x.s.length ≤ 1099511627776) (w : World) (hBn : Bn < w.heap.size) (hn₀ : n₀ ≤ w.heap.size)
    (hc : w.cell? ⟨Bn, 0, none⟩ = some (.slice a es.length cap)) (hT : TabV n₀ w a es) :
    SeqStopsK Fence.wide n Tryz.prog 152 #[.pointer (some ⟨Bn, 0, none⟩)] encP (Below n₀) (fun ys => ys = prs es) (fun pre => pre <+: prs es) es.length w := fun l J Jx W hW hJ hJx hY h0 => by
  have hJ' : ∀ s A B, J s A → Below A.heap.size A B → J s B := fun s A B h1 hB => hJ s A B none h1 ⟨hB.os, hB.tape, hB.output, hB.size, fun k hk _ => hB.block k hk⟩ (fun r e => by cases e)
  have hc' := (hW.cell (p := ⟨Bn, 0, none⟩) hBn).trans hc
  rcases hT.below (hW.mono hn₀) with rfl | ⟨b, off, rfl, hb, hcs⟩
  · exact (each1_nil n l Bn a cap J W hc' h0).mono fun e W' ⟨he, hj⟩ => ⟨he, .inl ⟨[], rfl, hj⟩⟩
  · exact each1_in n l Bn n₀ b off cap es hlen hs hb J Jx hJ' hY W (Nat.le_trans hn₀ hW.size) hc' hcs h0

theorem each_in (n : Nat) (a : Option Addr) (m cap : Nat) (w : World) :
    CallsIn Fence.wide n Tryz.prog 137 #[.slice a m cap] w fun e w' => e = .returned (.func (.func 152) #[] #[.pointer (some ⟨w.heap.size, 0, none⟩)]) ∧ w' = w.alloc (.cells #[.slice a m cap] 42) := by
  refine callsIn_of_wp Tryz.func137 rfl trivial ?_ rfl
  simp only [Tryz.ntmps137, List.size_toArray, List.length_cons, List.length_nil, Nat.reduceAdd, Nat.reduceSub, Array.replicate_succ, Array.replicate_zero, List.push_toArray, List.append_toArray, List.nil_append, List.cons_append]
  gi_wp2
  go_ret
  exact ⟨rfl, rfl⟩

/-- A block of some cells. -/
def BoxN (W : World) (B : Nat) (t : TypeId) (cs : Array Value) : Prop := W.heap[B]? = some (.cells cs t (0, 0))
theorem BoxN.kept {W W' : World} {B : Nat} {t : TypeId} {cs : Array Value} {row : Option Nat} (h : BoxN W B t cs) (hg : W.grownBy W' row) (hne : some B ≠ row) : BoxN W' B t cs := (hg.block B (Array.getElem?_eq_some_iff.1 h).1 hne).trans h
theorem boxN_own {β : Type} (B : Nat) (t : TypeId) (cs : Array Value) : Own (fun (_ : β) W => BoxN W B t cs) := fun s X Y row hs hg hrow =>
  hs.kept hg (fun e' => by obtain ⟨o, ho, hc⟩ := hrow B e'.symm; rw [show X.heap[B]? = _ from hs] at ho; cases ho; cases hc)
theorem BoxN.cell {W : World} {B : Nat} {t : TypeId} {cs : Array Value} (h : BoxN W B t cs) (j : Nat) : W.cell? ⟨B, j, none⟩ = cs[j]? := by simp [World.cell?, show W.heap[B]? = _ from h]
def svCells (s : Sv) : List Value := [.string ⟨s.n.toArray⟩, .string ⟨s.p.toArray⟩, .int .i64 s.o, .int .i64 s.i, .int .i64 s.w, .bool s.l]
def flatS (l : List (Int × Sv)) : List Value := l.flatMap fun x => svCells x.2
theorem flatS_snoc (l : List (Int × Sv)) (x : Int × Sv) : flatS (l ++ [x]) = flatS l ++ svCells x.2 := by simp [flatS]

theorem cells_new (w : World) (news : List Value) (t : TypeId) : ∀ j u, news[j]? = some u → (w.alloc (.cells news.toArray t)).cell? ((⟨w.heap.size, 0, none⟩ : Addr).add j) = some u := fun j u h => by
  rw [add_plain, Nat.zero_add, alloc_new]
  simpa using h

set_option maxHeartbeats 4000000 in
theorem all_in (a : Option Addr) (cap : Nat) (es : List En) (hlen : es.length ≤ 1048576) (hs : ∀ x ∈ es, x.s.length ≤ 1099511627776) (w : World) (hT : TabV w.heap.size w a es) :
    CallsIn Fence.wide 5 Tryz.prog 106 #[.slice a es.length cap] w fun e W' => ∃ v, e = .returned v ∧ W'.ownsRow w.heap.size 77 6 v (prs es).length (flatS (prs es)) ∧ Below w.heap.size w W' := by
  have hro : Fence.wide.round = none := rfl
  obtain ⟨i0, zv, hi, hz0, hz1, hz2, hzc, _⟩ := zero_full (P := Tryz.prog) (e := 77) (z := [vs [], vs [], vi 0, vi 0, vi 0, vb false]) (by kernel_rfl)
  have hz1 : i0.size = 6 := by rw [hz1]; kernel_rfl
  have hz2 : i0.bytes = 64 := by rw [hz2]; kernel_rfl
  have hzs : zv.cells.size = 6 := by
    have := congrArg List.length hzc
    simpa using this.symm
  refine callsIn_of_wp_marks Tryz.func106 rfl trivial ?_ hro
  simp only [Tryz.ntmps106, List.size_toArray, List.length_cons, List.length_nil, Nat.reduceAdd, Nat.reduceSub, Array.replicate_succ, Array.replicate_zero, List.push_toArray, List.append_toArray, List.nil_append, List.cons_append]
  gi_wp2_with (refine ⟨trivial, ?_⟩; gi_at_call 137; refine (each_in _ _ _ _ _).mono ?_; rintro e w' ⟨rfl, rfl⟩)
  have bO := Boxed.new w 82 (.slice none 0 0)
  have bN := Boxed.new (w.alloc (.cells #[.slice none 0 0] 82)) 42 (.slice a es.length cap)
  rw [World.size_alloc] at bN
  have hB0 : Below w.heap.size w ((w.alloc (.cells #[.slice none 0 0] 82)).alloc (.cells #[.slice a es.length cap] 42)) := ((Below.refl _ w).alloc (Nat.le_refl _) _).alloc (by simp) _
  refine wpIn_rangeFunc_ownH hro (show 1 ≤ 5 by decide) (gf := 152) (lb := #[.pointer (some ⟨w.heap.size + 1, 0, none⟩)]) rfl trivial (enters_of Tryz.func152 (by kernel_rfl) rfl)
    (each_stops 4 (w.heap.size + 1) w.heap.size a cap es (by omega) hs _ (by simp) (by simp; omega) bN.cell (hT.below hB0)) belowK_t (belowK_b (by simp; omega)) (Below.refl _ _) (by intro x; rfl)
    (fun pre W => (∃ v, Boxed W w.heap.size 82 v ∧ W.ownsRow w.heap.size 77 6 v pre.length (flatS pre) ∧ True) ∧ Below w.heap.size w W)
    (fun _ _ _ => False)
    (OwnFrom.and (Own.from (holdsRow_own w.heap.size w.heap.size 82 77 6 (fun pre : List (Int × Sv) => pre.length) (fun pre => flatS pre) (fun _ _ => True)) _) (ownFrom_below (Nat.le_refl _) (by simp; omega)))
    (fun _ _ _ _ _ hs _ _ => hs)
    ⟨⟨_, bO.alloc _, World.ownsRow_nil _ _ _ _, trivial⟩, hB0⟩
    (fun x a' W => ∃ Bx, w.heap.size < Bx ∧ BoxN W Bx 77 (svCells x.2).toArray ∧ a' = { tmps := #[.slice a es.length cap, undef, .slice none 0 0, .pointer (some ⟨w.heap.size, 0, none⟩), undef, .pointer (some ⟨Bx, 0, none⟩), .slice a es.length cap, .func (.func 152) #[] #[.pointer (some ⟨w.heap.size + 1, 0, none⟩)], .int .i64 x.1, svVal x.2, undef, undef, undef, undef, undef], defers := [] })
    (fun x a' s A B row ⟨Bx, h1, h2, h3⟩ hg hr => ⟨Bx, h1, Own.from (boxN_own Bx _ _) _ () A B row h2 hg hr, h3⟩)
    ?assign ?body ?done ?stop
  case assign =>
    rintro l pre x W K ⟨⟨v, hv, hrow, _⟩, hB⟩ hK
    obtain ⟨xk, xn, xp, x1, x2, x3, x4⟩ := x
    dsimp only [encP, svVal]
    gi_wp2
    exact hK _ _ ((KeepsOthers.alloc _ _).from _) ((Below.refl _ W).alloc hB.size _) ⟨⟨v, hv.alloc _, hrow.alloc _, trivial⟩, hB.alloc hB.size _⟩ ⟨W.heap.size, hv.lt, World.alloc_heap_new W _, rfl⟩
  case body =>
    rintro l pre x a' W hl _ ⟨⟨v, hv, hrow, _⟩, hB⟩ ⟨Bx, hBx, bX, rfl⟩ hlt
    obtain ⟨xk, xn, xp, x1, x2, x3, x4⟩ := x
    have hc := hv.cell
    have c0 : W.cell? ⟨Bx, 0, none⟩ = some (.string ⟨xn.toArray⟩) := bX.cell 0
    have c1 : W.cell? ⟨Bx, 1, none⟩ = some (.string ⟨xp.toArray⟩) := bX.cell 1
    have c2 : W.cell? ⟨Bx, 2, none⟩ = some (.int .i64 x1) := bX.cell 2
    have c3 : W.cell? ⟨Bx, 3, none⟩ = some (.int .i64 x2) := bX.cell 3
    have c4 : W.cell? ⟨Bx, 4, none⟩ = some (.int .i64 x3) := bX.cell 4
    have c5 : W.cell? ⟨Bx, 5, none⟩ = some (.bool x4) := bX.cell 5
    dsimp only [svVal]
    gi_wp2_with (gi_at_builtin; refine wpListIn_append_own _ rfl _ _ 82 rfl w.heap.size 77 i0 zv 6 64 Tryz.underlying82 hi hz0 hz1 hz2 hzs (by decide) _ _ _ rfl (hrow.alloc _) ⟨W.heap.size, 0, none⟩ 1 1 (svCells ⟨xn, xp, x1, x2, x3, x4⟩) rfl rfl (cells_new _ _ _) (by simp [svCells, Value.oneCell']) (Nat.le_trans (show pre.length + 1 ≤ 1048576 by omega) (by decide)) (by omega) (by have := hB.size; simp; omega) ?_; intro v' w1 hown' hgrow _; obtain ⟨g', cap', rfl⟩ := ownsRow_succ hown'; obtain ⟨hv1, hv2, hr2, hk2, hb2⟩ := hv.appended (by decide) hrow hB.size (Nat.le_refl _) hown' hgrow; have hc1 := hv1.cell; have hf1 := hv1.frozen)
    exact ⟨hk2.from _, hb2, ⟨⟨_, hv2, by rw [flatS_snoc, List.length_append, List.length_singleton]; exact hr2⟩, hB.trans hb2⟩⟩
  case done =>
    rintro D ys W hD rfl ⟨⟨v, hv, hrow, _⟩, hB⟩ hK
    have hc := hv.cell
    gi_wp2
    refine ⟨by simp, .inl ⟨_, _, rfl, run_takeDeferred hK, ?_⟩⟩
    exact ⟨_, results_tmp rfl _ _ _, v, rfl, ownsRow_putObj hrow _ hK rfl, hB.trans (belowK_b (w := w) (Nat.le_refl _) W D _ _ (by simp at hD; omega) hK rfl rfl)⟩
  case stop =>
    rintro D c pre W _ _ h _
    exact h.elim

end Go.Proofs.YtnlmdeeadldgmaaGreatDoor.VL

/- Layer 15: a service's key, as the program finds it. -/
set_option linter.unusedVariables false
set_option linter.unusedSimpArgs false
set_option maxRecDepth 100000
namespace Go.Proofs.YtnlmdeeadldgmaaGreatDoor.VL
open Go Go.RowKit Go.Lib Go.Shelf
attribute [local go_sem] Oper.semAt_some

def mt (name proto : List UInt8) (x : Int × Sv) : Prop := x.2.n = name ∧ x.2.p = proto
/-- The key of the first service of a name and a protocol. -/
def keyS (name proto : List UInt8) : List (Int × Sv) → Int × Bool
  | [] => (0, false)
  | x :: l => if x.2.n = name ∧ x.2.p = proto then (x.1, true) else keyS name proto l
def NoMt (name proto : List UInt8) (l : List (Int × Sv)) : Prop := ∀ x ∈ l, ¬ mt name proto x
theorem NoMt.snoc {name proto : List UInt8} {l : List (Int × Sv)} {x : Int × Sv} (h : NoMt name proto l) (hx : ¬ mt name proto x) : NoMt name proto (l ++ [x]) := fun y hy => by
  rcases List.mem_append.1 hy with hy | hy
  · exact h y hy
  · rw [List.mem_singleton] at hy; subst hy; exact hx
theorem keyS_none {name proto : List UInt8} : ∀ {l : List (Int × Sv)}, NoMt name proto l → keyS name proto l = (0, false)
  | [], _ => rfl
  | x :: l, h => by
    have h1 : ¬ (x.2.n = name ∧ x.2.p = proto) := h x (by simp)
    rw [keyS, if_neg h1, keyS_none fun y hy => h y (by simp [hy])]
theorem keyS_some {name proto : List UInt8} {x : Int × Sv} (hx : mt name proto x) : ∀ {l r : List (Int × Sv)}, NoMt name proto l → (l ++ [x]) <+: r → keyS name proto r = (x.1, true)
  | [], r, _, ⟨t, ht⟩ => by
    have h1 : x.2.n = name ∧ x.2.p = proto := hx
    rw [← ht]; simp only [List.nil_append, List.cons_append, keyS]; rw [if_pos h1]
  | y :: l, r, h, ⟨t, ht⟩ => by
    have h1 : ¬ (y.2.n = name ∧ y.2.p = proto) := h y (by simp)
    rw [← ht]
    simp only [List.cons_append, keyS]
    rw [if_neg h1]
    exact keyS_some hx (l := l) (fun z hz => h z (by simp [hz])) ⟨t, rfl⟩
/-- The results' cells where a service was found. -/
def RetAt (name proto : List UInt8) (B : Nat) (pre : List (Int × Sv)) (W : World) : Prop :=
  ∃ l x, pre = l ++ [x] ∧ NoMt name proto l ∧ mt name proto x ∧ Boxed W (B + 1 + 1) 3 (.int .i64 x.1) ∧ Boxed W (B + 1 + 1 + 1) 4 (.bool true)

end Go.Proofs.YtnlmdeeadldgmaaGreatDoor.VL

/- Layer 15: a table's services, a service's key: in the value logic. -/
set_option linter.unusedVariables false
set_option linter.unusedSimpArgs false
set_option maxRecDepth 10000
namespace Go.Proofs.YtnlmdeeadldgmaaGreatDoor.VL
open Go Go.RowKit Go.Lib

theorem below_step {base : Nat} {w w' : World} {H : List Box} {β : Pl} (hI : Inv base w H β) (h : Below w.heap.size w w') : Inv base w' H β ∧ Stp base w H β w' H β := by
  refine still hI ⟨h.os, h.tape, h.output, h.size, fun k c e fr hk => ⟨c, ?_, rfl⟩, fun k o hk _ => ?_⟩ fun k x hk => ?_
  · rw [h.block k (Array.getElem?_eq_some_iff.1 hk).1]; exact hk
  · rw [h.block k (Array.getElem?_eq_some_iff.1 hk).1]; exact hk
  · exact World.cell?_of_block (h.block k hk)
/-- A contract that was proved by a concrete walk. -/
theorem aspec_of_calls {P : Program} {f : FuncId} {args : List AV} {H : List Box} {r : AV} (hcall : ∀ vs w, (callFunc f vs).run P w = .ok (.enter f vs) w)
    (h : ∀ (w : World) (β : Pl) (vs : Array Value), Reps w H β args vs → Calls P f vs w fun e w' => ∃ v, e = .returned v ∧ Below w.heap.size w w' ∧ ((∀ k x, w.heap.size ≤ k → ¬ Wr H β k x) → Rep w' H β r v)) : ASpec P f args H (Gives r H) := fun base w β vs hI hr => by
  refine .inl ⟨hcall vs w, (h w β vs hr).mono ?_⟩
  rintro e w' ⟨v, rfl, hB, hv⟩
  obtain ⟨h1, h2⟩ := below_step hI hB
  refine ⟨.ret r, H, β, ⟨rfl, rfl⟩, hv fun k x hk => ?_, h1, h2⟩
  rintro ⟨i, bx, s, g1, g2, _⟩
  have := (hI.real i bx k s g1 g2).2
  omega
theorem reps1 {w : World} {H : List Box} {β : Pl} {a : AV} {vs : Array Value} (h : Reps w H β [a] vs) : ∃ v, vs = #[v] ∧ Rep w H β a v := by
  obtain ⟨h1, h2⟩ := h
  have h1 : 1 = vs.size := h1
  refine ⟨vs[0], ?_, h2 0 a _ rfl (Array.getElem?_eq_getElem (by omega))⟩
  apply Array.ext
  · simp; omega
  · intro i hi hj
    obtain rfl : i = 0 := by omega
    rfl
theorem reps3 {w : World} {H : List Box} {β : Pl} {a b c : AV} {vs : Array Value} (h : Reps w H β [a, b, c] vs) : ∃ u v x, vs = #[u, v, x] ∧ Rep w H β a u ∧ Rep w H β b v ∧ Rep w H β c x := by
  obtain ⟨h1, h2⟩ := h
  have h1 : 3 = vs.size := h1
  refine ⟨vs[0], vs[1], vs[2], ?_, h2 0 a _ rfl (Array.getElem?_eq_getElem (by omega)), h2 1 b _ rfl (Array.getElem?_eq_getElem (by omega)), h2 2 c _ rfl (Array.getElem?_eq_getElem (by omega))⟩
  apply Array.ext
  · simp; omega
  · intro i hi hj
    rcases i with _ | _ | _ | i
    · rfl
    · rfl
    · rfl
    · omega
theorem tabV_of {w : World} {H : List Box} {β : Pl} {es : List En} {v : Value} (h : Rep w H β (.lst 3 (enG es)) v) : ∃ a cap, v = .slice a es.length cap ∧ TabV w.heap.size w a es := by
  generalize hg : enG es = gs at h
  cases h with
  | lst0 sz a cap =>
    have : es = [] := by
      have := congrArg List.length hg
      simpa using this
    subst this
    exact ⟨a, cap, rfl, .inl rfl⟩
  | lst sz gs k s cap x hn hgl hc hr =>
    subst hg
    refine ⟨some ⟨k, s, none⟩, cap, by rw [enG_length], ?_⟩
    by_cases he : es = []
    · exact .inl he
    · refine .inr ⟨k, s, rfl, ?_, fun j y hj => ?_⟩
      · obtain ⟨e, l, rfl⟩ := List.exists_cons_of_ne_nil he
        exact cell_lt (hc 0 0 (enC e) (vi e.k) rfl rfl).1
      · have hj' : (enG es)[j]? = some (enC y) := by rw [enG_get, hj]; rfl
        have c0 := hc j 0 _ (vi y.k) hj' rfl
        have c1 := hc j 1 _ (vi y.v) hj' rfl
        have c2 := hc j 2 _ (vs y.s) hj' rfl
        have r0 := rep_v (hr j 0 _ (vi y.k) hj' rfl)
        have r1 := rep_v (hr j 1 _ (vi y.v) hj' rfl)
        have r2 := rep_v (hr j 2 _ (vs y.s) hj' rfl)
        rw [r0] at c0
        rw [r1] at c1
        rw [r2] at c2
        exact ⟨c0.1, c1.1, c2.1⟩
theorem flatS_get : ∀ (l : List (Int × Sv)) (i j : Nat), j < 6 → (flatS l)[i * 6 + j]? = (l[i]?).bind fun x => (svCells x.2)[j]?
  | [], i, j, _ => by simp [flatS]
  | x :: l, 0, j, hj => by
    have : flatS (x :: l) = svCells x.2 ++ flatS l := by simp [flatS]
    rw [this, Nat.zero_mul, Nat.zero_add, List.getElem?_append_left (by simpa [svCells] using hj)]
    rfl
  | x :: l, i + 1, j, hj => by
    have : flatS (x :: l) = svCells x.2 ++ flatS l := by simp [flatS]
    have h6 : (svCells x.2).length = 6 := rfl
    rw [this, List.getElem?_append_right (by omega), h6, show (i + 1) * 6 + j - 6 = i * 6 + j by omega, flatS_get l i j hj]
    rfl
/-- The services of a table. -/
def allS (es : List En) : List Sv := (prs es).map (·.2)

theorem svAll_spec (es : List En) (hlen : es.length ≤ 1048576) (hs : ∀ x ∈ es, x.s.length ≤ 1099511627776) (H : List Box) : ASpec Tryz.prog 106 [.lst 3 (enG es)] H (Gives (.lst 6 (svG (allS es))) H) := by
  refine aspec_of_calls (fun vs w => Tryz.call106 vs w) fun w β vs hr => ?_
  obtain ⟨v, rfl, hv⟩ := reps1 hr
  obtain ⟨a, cap, rfl, hT⟩ := tabV_of hv
  refine (callsIn_wide.1 (all_in a cap es hlen hs w hT)).mono ?_
  rintro e W' ⟨v, rfl, ⟨hxl, hown⟩, hB⟩
  refine ⟨v, rfl, hB, fun hw => ?_⟩
  unfold allS
  generalize prs es = l at *
  rcases hown with ⟨rfl, h0⟩ | ⟨g, cap', cur, rfl, hg, hheap, hncap, _, hsz, htake⟩
  · have : l = [] := List.length_eq_zero_iff.1 h0
    subst this
    exact .lst0 _ _ _
  · have hget : ∀ i (x : Int × Sv), l[i]? = some x → ∀ j, j < 6 → cur[i * 6 + j]? = (svCells x.2)[j]? := fun i x hi j hj => by
      have hil := (List.getElem?_eq_some_iff.1 hi).1
      have := flatS_get l i j hj
      rw [hi, ← htake, List.getElem?_take_of_lt (by omega), Array.getElem?_toList] at this
      exact this
    have hm : ∀ i c, (svG (l.map (·.2)))[i]? = some c → ∃ x : Int × Sv, l[i]? = some x ∧ c = svC x.2 := fun i c hi => by
      rw [svG_get, List.getElem?_map, Option.map_map] at hi
      obtain ⟨x, h1, h2⟩ := Option.map_eq_some_iff.1 hi
      exact ⟨x, h1, h2.symm⟩
    have := Rep.lst (w := W') (H := H) (β := β) 6 (svG (l.map (·.2))) g 0 cap' (fun i j => (cur[i * 6 + j]?).getD undef) (by simpa using hncap) (fun i c hi => by obtain ⟨x, _, rfl⟩ := hm i c hi; rfl)
      (fun i j c d hi hj => by
        obtain ⟨x, h1, rfl⟩ := hm i c hi
        have hj6 : j < 6 := (List.getElem?_eq_some_iff.1 hj).1
        have h2 := hget i x h1 j hj6
        refine ⟨?_, ?_, hw g _ hg⟩
        · have hlt : j < (svCells x.2).length := hj6
          rw [World.cell?, hheap]
          (try dsimp only)
          rw [Nat.zero_add, h2, List.getElem?_eq_getElem hlt]
          rfl
        · (try dsimp only)
          rw [h2]
          rcases j with _ | _ | _ | _ | _ | _ | j
          all_goals first | rfl | omega)
      (fun i j c d hi hj => by
        obtain ⟨x, h1, rfl⟩ := hm i c hi
        have hj6 : j < 6 := (List.getElem?_eq_some_iff.1 hj).1
        have h2 := hget i x h1 j hj6
        (try dsimp only)
        rw [h2]
        rcases j with _ | _ | _ | _ | _ | _ | j
        all_goals first | omega | (simp at hj; subst hj; exact .v _))
    simpa using this

end Go.Proofs.YtnlmdeeadldgmaaGreatDoor.VL

/- Layer 15: all services of a table, as the program collects them. -/
import Derived.RangeFuncNested
import Derived.Test.YtnoekcdmaaakfaaDoorZSvcG
set_option linter.unusedVariables false
set_option linter.unusedSimpArgs false
set_option maxRecDepth 100000
namespace Go.Proofs.YtnoekcdmaaakfaaDoor.VL
open Go Go.RowKit Go.Lib Go.Shelf
attribute [local go_sem] Oper.semAt_some

/-- A slice value over a table in blocks below n₀. -/
def TabV (n₀ : Nat) (W : World) (a : Option Addr) (es : List En) : Prop :=
  es = [] ∨ ∃ b off, a = some ⟨b, off, none⟩ ∧ b < n₀ ∧ Tab W b off es
theorem TabV.below {n₀ : Nat} {A B : World} (h : Below n₀ A B) {a : Option Addr} {es : List En} : TabV n₀ A a es → TabV n₀ B a es
  | .inl e => .inl e
  | .inr ⟨b, off, e, hb, hc⟩ => .inr ⟨b, off, e, hb, hc.below h hb⟩

set_option maxHeartbeats 2000000 in
theorem each1_nil (n : Nat) (l Bs : Nat) (a : Option Addr) (cap : Nat) (J : List (Int × Sv) → World → Prop)
    (W : World) (hBs : W.cell? ⟨Bs, 0, none⟩ = some (.slice a 0 cap)) (h0 : J [] W) :
    CallsIn Fence.wide n Tryd.prog 49 #[.func (.yield l) #[] #[], .pointer (some ⟨Bs, 0, none⟩)] W fun e W' => (∃ v, e = .returned v) ∧ J [] W' := by
  refine callsIn_of_wp Tryd.func49 rfl trivial ?_ rfl
  simp only [Tryd.ntmps49, List.size_toArray, List.length_cons, List.length_nil, Nat.reduceAdd, Nat.reduceSub, Array.replicate_succ, Array.replicate_zero, List.push_toArray, List.append_toArray, List.nil_append, List.cons_append]
  gi_wp2
  simp only [undef]
  gi_loopw [9] (fun i wr => i = .int .i64 0 ∧ J [] wr) (fun _ _ => 0)
  case atStart => exact ⟨rfl, h0⟩
  case round =>
    obtain ⟨rfl, hJs⟩ := hrel
    gi_wp2
    go_end0
    exact ⟨⟨_, rfl⟩, hJs⟩

theorem each_stops (n : Nat) (Bn n₀ : Nat) (a : Option Addr) (cap : Nat) (es : List En) (hlen : es.length ≤ 1099511627776) (hs : ∀ x ∈ es, x.s.length ≤ 1099511627776) (w : World) (hBn : Bn < w.heap.size) (hn₀ : n₀ ≤ w.heap.size)
    (hc : w.cell? ⟨Bn, 0, none⟩ = some (.slice a es.length cap)) (hT : TabV n₀ w a es) :
    SeqStopsK Fence.wide n Tryd.prog 49 #[.pointer (some ⟨Bn, 0, none⟩)] encP (Below n₀) (fun ys => ys = prs es) (fun pre => pre <+: prs es) es.length w := fun l J Jx W hW hJ hJx hY h0 => by
  have hJ' : ∀ s A B, J s A → Below A.heap.size A B → J s B := fun s A B h1 hB => hJ s A B none h1 ⟨hB.os, hB.tape, hB.output, hB.size, fun k hk _ => hB.block k hk⟩ (fun r e => by cases e)
  have hc' := (hW.cell (p := ⟨Bn, 0, none⟩) hBn).trans hc
  rcases hT.below (hW.mono hn₀) with rfl | ⟨b, off, rfl, hb, hcs⟩
  · exact (each1_nil n l Bn a cap J W hc' h0).mono fun e W' ⟨he, hj⟩ => ⟨he, .inl ⟨[], rfl, hj⟩⟩
  · exact each1_in n l Bn n₀ b off cap es hlen hs hb J Jx hJ' hY W (Nat.le_trans hn₀ hW.size) hc' hcs h0

theorem each_in (n : Nat) (a : Option Addr) (m cap : Nat) (w : World) :
    CallsIn Fence.wide n Tryd.prog 35 #[.slice a m cap] w fun e w' => e = .returned (.func (.func 49) #[] #[.pointer (some ⟨w.heap.size, 0, none⟩)]) ∧ w' = w.alloc (.cells #[.slice a m cap] 33) := by
  refine callsIn_of_wp Tryd.func35 rfl trivial ?_ rfl
  simp only [Tryd.ntmps35, List.size_toArray, List.length_cons, List.length_nil, Nat.reduceAdd, Nat.reduceSub, Array.replicate_succ, Array.replicate_zero, List.push_toArray, List.append_toArray, List.nil_append, List.cons_append]
  gi_wp2
  go_ret
  exact ⟨rfl, rfl⟩

/-- A block of some cells. -/
def BoxN (W : World) (B : Nat) (t : TypeId) (cs : Array Value) : Prop := W.heap[B]? = some (.cells cs t (0, 0))
theorem BoxN.kept {W W' : World} {B : Nat} {t : TypeId} {cs : Array Value} {row : Option Nat} (h : BoxN W B t cs) (hg : W.grownBy W' row) (hne : some B ≠ row) : BoxN W' B t cs := (hg.block B (Array.getElem?_eq_some_iff.1 h).1 hne).trans h
theorem boxN_own {β : Type} (B : Nat) (t : TypeId) (cs : Array Value) : Own (fun (_ : β) W => BoxN W B t cs) := fun s X Y row hs hg hrow =>
  hs.kept hg (fun e' => by obtain ⟨o, ho, hc⟩ := hrow B e'.symm; rw [show X.heap[B]? = _ from hs] at ho; cases ho; cases hc)
theorem BoxN.cell {W : World} {B : Nat} {t : TypeId} {cs : Array Value} (h : BoxN W B t cs) (j : Nat) : W.cell? ⟨B, j, none⟩ = cs[j]? := by simp [World.cell?, show W.heap[B]? = _ from h]
def svCells (s : Sv) : List Value := [.string ⟨s.n.toArray⟩, .string ⟨s.p.toArray⟩, .int .i64 s.o, .int .i64 s.i, .int .i64 s.w, .bool s.l]
def flatS (l : List (Int × Sv)) : List Value := l.flatMap fun x => svCells x.2
theorem flatS_snoc (l : List (Int × Sv)) (x : Int × Sv) : flatS (l ++ [x]) = flatS l ++ svCells x.2 := by simp [flatS]

theorem cells_new (w : World) (news : List Value) (t : TypeId) : ∀ j u, news[j]? = some u → (w.alloc (.cells news.toArray t)).cell? ((⟨w.heap.size, 0, none⟩ : Addr).add j) = some u := fun j u h => by
  rw [add_plain, Nat.zero_add, alloc_new]
  simpa using h

set_option maxHeartbeats 4000000 in
theorem all_in (a : Option Addr) (cap : Nat) (es : List En) (hlen : es.length ≤ 1048576) (hs : ∀ x ∈ es, x.s.length ≤ 1099511627776) (w : World) (hT : TabV w.heap.size w a es) :
    CallsIn Fence.wide 5 Tryd.prog 20 #[.slice a es.length cap] w fun e W' => ∃ v, e = .returned v ∧ W'.ownsRow w.heap.size 23 6 v (prs es).length (flatS (prs es)) ∧ Below w.heap.size w W' := by
  have hro : Fence.wide.round = none := rfl
  obtain ⟨i0, zv, hi, hz0, hz1, hz2, hzc, _⟩ := zero_full (P := Tryd.prog) (e := 23) (z := [vs [], vs [], vi 0, vi 0, vi 0, vb false]) (by kernel_rfl)
  have hz1 : i0.size = 6 := by rw [hz1]; kernel_rfl
  have hz2 : i0.bytes = 64 := by rw [hz2]; kernel_rfl
  have hzs : zv.cells.size = 6 := by
    have := congrArg List.length hzc
    simpa using this.symm
  refine callsIn_of_wp_marks Tryd.func20 rfl trivial ?_ hro
  simp only [Tryd.ntmps20, List.size_toArray, List.length_cons, List.length_nil, Nat.reduceAdd, Nat.reduceSub, Array.replicate_succ, Array.replicate_zero, List.push_toArray, List.append_toArray, List.nil_append, List.cons_append]
  gi_wp2_with (refine ⟨trivial, ?_⟩; gi_at_call 35; refine (each_in _ _ _ _ _).mono ?_; rintro e w' ⟨rfl, rfl⟩)
  have bO := Boxed.new w 41 (.slice none 0 0)
  have bN := Boxed.new (w.alloc (.cells #[.slice none 0 0] 41)) 33 (.slice a es.length cap)
  rw [World.size_alloc] at bN
  have hB0 : Below w.heap.size w ((w.alloc (.cells #[.slice none 0 0] 41)).alloc (.cells #[.slice a es.length cap] 33)) := ((Below.refl _ w).alloc (Nat.le_refl _) _).alloc (by simp) _
  refine wpIn_rangeFunc_ownH hro (show 1 ≤ 5 by decide) (gf := 49) (lb := #[.pointer (some ⟨w.heap.size + 1, 0, none⟩)]) rfl trivial (enters_of Tryd.func49 (by kernel_rfl) rfl)
    (each_stops 4 (w.heap.size + 1) w.heap.size a cap es (by omega) hs _ (by simp) (by simp; omega) bN.cell (hT.below hB0)) belowK_t (belowK_b (by simp; omega)) (Below.refl _ _) (by intro x; rfl)
    (fun pre W => (∃ v, Boxed W w.heap.size 41 v ∧ W.ownsRow w.heap.size 23 6 v pre.length (flatS pre) ∧ True) ∧ Below w.heap.size w W)
    (fun _ _ _ => False)
    (OwnFrom.and (Own.from (holdsRow_own w.heap.size w.heap.size 41 23 6 (fun pre : List (Int × Sv) => pre.length) (fun pre => flatS pre) (fun _ _ => True)) _) (ownFrom_below (Nat.le_refl _) (by simp; omega)))
    (fun _ _ _ _ _ hs _ _ => hs)
    ⟨⟨_, bO.alloc _, World.ownsRow_nil _ _ _ _, trivial⟩, hB0⟩
    (fun x a' W => ∃ Bx, w.heap.size < Bx ∧ BoxN W Bx 23 (svCells x.2).toArray ∧ a' = { tmps := #[.slice a es.length cap, undef, .slice none 0 0, .pointer (some ⟨w.heap.size, 0, none⟩), undef, .pointer (some ⟨Bx, 0, none⟩), .slice a es.length cap, .func (.func 49) #[] #[.pointer (some ⟨w.heap.size + 1, 0, none⟩)], .int .i64 x.1, svVal x.2, undef, undef, undef, undef, undef], defers := [] })
    (fun x a' s A B row ⟨Bx, h1, h2, h3⟩ hg hr => ⟨Bx, h1, Own.from (boxN_own Bx _ _) _ () A B row h2 hg hr, h3⟩)
    ?assign ?body ?done ?stop
  case assign =>
    rintro l pre x W K ⟨⟨v, hv, hrow, _⟩, hB⟩ hK
    obtain ⟨xk, xn, xp, x1, x2, x3, x4⟩ := x
    dsimp only [encP, svVal]
    gi_wp2
    exact hK _ _ ((KeepsOthers.alloc _ _).from _) ((Below.refl _ W).alloc hB.size _) ⟨⟨v, hv.alloc _, hrow.alloc _, trivial⟩, hB.alloc hB.size _⟩ ⟨W.heap.size, hv.lt, World.alloc_heap_new W _, rfl⟩
  case body =>
    rintro l pre x a' W hl _ ⟨⟨v, hv, hrow, _⟩, hB⟩ ⟨Bx, hBx, bX, rfl⟩ hlt
    obtain ⟨xk, xn, xp, x1, x2, x3, x4⟩ := x
    have hc := hv.cell
    have c0 : W.cell? ⟨Bx, 0, none⟩ = some (.string ⟨xn.toArray⟩) := bX.cell 0
    have c1 : W.cell? ⟨Bx, 1, none⟩ = some (.string ⟨xp.toArray⟩) := bX.cell 1
    have c2 : W.cell? ⟨Bx, 2, none⟩ = some (.int .i64 x1) := bX.cell 2
    have c3 : W.cell? ⟨Bx, 3, none⟩ = some (.int .i64 x2) := bX.cell 3
    have c4 : W.cell? ⟨Bx, 4, none⟩ = some (.int .i64 x3) := bX.cell 4
    have c5 : W.cell? ⟨Bx, 5, none⟩ = some (.bool x4) := bX.cell 5
    dsimp only [svVal]
    gi_wp2_with (gi_at_builtin; refine wpListIn_append_own _ rfl _ _ 41 rfl w.heap.size 23 i0 zv 6 64 Tryd.underlying41 hi hz0 hz1 hz2 hzs (by decide) _ _ _ rfl (hrow.alloc _) ⟨W.heap.size, 0, none⟩ 1 1 (svCells ⟨xn, xp, x1, x2, x3, x4⟩) rfl rfl (cells_new _ _ _) (by simp [svCells, Value.oneCell']) (Nat.le_trans (show pre.length + 1 ≤ 1048576 by omega) (by decide)) (by omega) (by have := hB.size; simp; omega) ?_; intro v' w1 hown' hgrow _; obtain ⟨g', cap', rfl⟩ := ownsRow_succ hown'; obtain ⟨hv1, hv2, hr2, hk2, hb2⟩ := hv.appended (by decide) hrow hB.size (Nat.le_refl _) hown' hgrow; have hc1 := hv1.cell; have hf1 := hv1.frozen)
    exact ⟨hk2.from _, hb2, ⟨⟨_, hv2, by rw [flatS_snoc, List.length_append, List.length_singleton]; exact hr2⟩, hB.trans hb2⟩⟩
  case done =>
    rintro D ys W hD rfl ⟨⟨v, hv, hrow, _⟩, hB⟩ hK
    have hc := hv.cell
    gi_wp2
    refine ⟨by simp, .inl ⟨_, _, rfl, run_takeDeferred hK, ?_⟩⟩
    exact ⟨_, results_tmp rfl _ _ _, v, rfl, ownsRow_putObj hrow _ hK rfl, hB.trans (belowK_b (w := w) (Nat.le_refl _) W D _ _ (by simp at hD; omega) hK rfl rfl)⟩
  case stop =>
    rintro D c pre W _ _ h _
    exact h.elim

end Go.Proofs.YtnoekcdmaaakfaaDoor.VL

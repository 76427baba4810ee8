/- Layer 15: a service's key, as the program finds it. -/
import Derived.Test.YtnoekcdmaaakfaaDoorZSvcH
set_option linter.unusedVariables false
set_option linter.unusedSimpArgs false
set_option maxRecDepth 100000
namespace Go.Proofs.YtnoekcdmaaakfaaDoor.VL
open Go Go.RowKit Go.Lib Go.Shelf
attribute [local go_sem] Oper.semAt_some

def mt (name proto : List UInt8) (x : Int × Sv) : Prop := x.2.n = name ∧ x.2.p = proto
/-- The key of the first service of a name and a protocol. -/
def keyS (name proto : List UInt8) : List (Int × Sv) → Int × Bool
  | [] => (0, false)
  | x :: l => if x.2.n = name ∧ x.2.p = proto then (x.1, true) else keyS name proto l
def NoMt (name proto : List UInt8) (l : List (Int × Sv)) : Prop := ∀ x ∈ l, ¬ mt name proto x
theorem NoMt.snoc {name proto : List UInt8} {l : List (Int × Sv)} {x : Int × Sv} (h : NoMt name proto l) (hx : ¬ mt name proto x) : NoMt name proto (l ++ [x]) := fun y hy => by
  rcases List.mem_append.1 hy with hy | hy
  · exact h y hy
  · rw [List.mem_singleton] at hy; subst hy; exact hx
theorem keyS_none {name proto : List UInt8} : ∀ {l : List (Int × Sv)}, NoMt name proto l → keyS name proto l = (0, false)
  | [], _ => rfl
  | x :: l, h => by
    have h1 : ¬ (x.2.n = name ∧ x.2.p = proto) := h x (by simp)
    rw [keyS, if_neg h1, keyS_none fun y hy => h y (by simp [hy])]
theorem keyS_some {name proto : List UInt8} {x : Int × Sv} (hx : mt name proto x) : ∀ {l r : List (Int × Sv)}, NoMt name proto l → (l ++ [x]) <+: r → keyS name proto r = (x.1, true)
  | [], r, _, ⟨t, ht⟩ => by
    have h1 : x.2.n = name ∧ x.2.p = proto := hx
    rw [← ht]; simp only [List.nil_append, List.cons_append, keyS]; rw [if_pos h1]
  | y :: l, r, h, ⟨t, ht⟩ => by
    have h1 : ¬ (y.2.n = name ∧ y.2.p = proto) := h y (by simp)
    rw [← ht]
    simp only [List.cons_append, keyS]
    rw [if_neg h1]
    exact keyS_some hx (l := l) (fun z hz => h z (by simp [hz])) ⟨t, rfl⟩
/-- The results' cells where a service was found. -/
def RetAt (name proto : List UInt8) (B : Nat) (pre : List (Int × Sv)) (W : World) : Prop :=
  ∃ l x, pre = l ++ [x] ∧ NoMt name proto l ∧ mt name proto x ∧ Boxed W (B + 1 + 1) 3 (.int .i64 x.1) ∧ Boxed W (B + 1 + 1 + 1) 4 (.bool true)

set_option maxHeartbeats 4000000 in
theorem key_in (a : Option Addr) (cap : Nat) (es : List En) (name proto : List UInt8) (hlen : es.length ≤ 1048576) (hs : ∀ x ∈ es, x.s.length ≤ 1099511627776) (w : World) (hT : TabV w.heap.size w a es) :
    CallsIn Fence.wide 5 Tryd.prog 17 #[.slice a es.length cap, .string ⟨name.toArray⟩, .string ⟨proto.toArray⟩] w fun e W' =>
      e = .returned (.tuple #[.int .i64 (keyS name proto (prs es)).1, .bool (keyS name proto (prs es)).2]) ∧ Below w.heap.size w W' := by
  have hro : Fence.wide.round = none := rfl
  refine callsIn_of_wp_marks Tryd.func17 rfl trivial ?_ hro
  simp only [Tryd.ntmps17, List.size_toArray, List.length_cons, List.length_nil, Nat.reduceAdd, Nat.reduceSub, Array.replicate_succ, Array.replicate_zero, List.push_toArray, List.append_toArray, List.nil_append, List.cons_append]
  gi_wp2_with (refine ⟨trivial, ?_⟩; gi_at_call 35; refine (each_in _ _ _ _ _).mono ?_; rintro e w' ⟨rfl, rfl⟩)
  have q0 := Boxed.new w 9 (.string ⟨name.toArray⟩)
  have q1 := Boxed.new (w.alloc (.cells #[.string ⟨name.toArray⟩] 9)) 9 (.string ⟨proto.toArray⟩)
  have q2 := Boxed.new ((w.alloc (.cells #[.string ⟨name.toArray⟩] 9)).alloc (.cells #[.string ⟨proto.toArray⟩] 9)) 3 (.int .i64 0)
  have q3 := Boxed.new (((w.alloc (.cells #[.string ⟨name.toArray⟩] 9)).alloc (.cells #[.string ⟨proto.toArray⟩] 9)).alloc (.cells #[.int .i64 0] 3)) 4 (.bool false)
  have q4 := Boxed.new ((((w.alloc (.cells #[.string ⟨name.toArray⟩] 9)).alloc (.cells #[.string ⟨proto.toArray⟩] 9)).alloc (.cells #[.int .i64 0] 3)).alloc (.cells #[.bool false] 4)) 33 (.slice a es.length cap)
  simp only [World.size_alloc] at q1 q2 q3 q4
  have hB0 : Below w.heap.size w (((((w.alloc (.cells #[.string ⟨name.toArray⟩] 9)).alloc (.cells #[.string ⟨proto.toArray⟩] 9)).alloc (.cells #[.int .i64 0] 3)).alloc (.cells #[.bool false] 4)).alloc (.cells #[.slice a es.length cap] 33)) :=
    ((((((Below.refl _ w).alloc (Nat.le_refl _) _).alloc (by simp) _).alloc (by simp; omega) _).alloc (by simp; omega) _).alloc (by simp; omega) _)
  refine wpIn_rangeFunc_ownH hro (show 1 ≤ 5 by decide) (gf := 49) (lb := #[.pointer (some ⟨w.heap.size + 1 + 1 + 1 + 1, 0, none⟩)]) rfl trivial (enters_of Tryd.func49 (by kernel_rfl) rfl)
    (each_stops 4 (w.heap.size + 1 + 1 + 1 + 1) w.heap.size a cap es (by omega) hs _ (by simp) (by simp; omega) q4.cell (hT.below hB0)) belowK_t (belowK_b (by simp; omega)) (Below.refl _ _) (by intro x; rfl)
    (fun pre W => NoMt name proto pre ∧ Boxed W w.heap.size 9 (.string ⟨name.toArray⟩) ∧ Boxed W (w.heap.size + 1) 9 (.string ⟨proto.toArray⟩) ∧ Boxed W (w.heap.size + 1 + 1) 3 (.int .i64 0) ∧ Boxed W (w.heap.size + 1 + 1 + 1) 4 (.bool false) ∧ Below w.heap.size w W)
    (fun c pre W => c = .ret ∧ RetAt name proto w.heap.size pre W ∧ Below w.heap.size w W)
    (fun s A C row ⟨h1, b0, b1, b2, b3, hB⟩ hg hr => ⟨h1, Own.from (boxed_own _ _ (fun _ => _)) _ () A C row b0 hg hr, Own.from (boxed_own _ _ (fun _ => _)) _ () A C row b1 hg hr, Own.from (boxed_own _ _ (fun _ => _)) _ () A C row b2 hg hr, Own.from (boxed_own _ _ (fun _ => _)) _ () A C row b3 hg hr, ownFrom_below (Nat.le_refl _) (by simp; omega) () A C row hB hg hr⟩)
    (fun c s A C row ⟨hc, ⟨l, x, h1, h2, h3, b2, b3⟩, hB⟩ hg hr => ⟨hc, ⟨l, x, h1, h2, h3, Own.from (boxed_own _ _ (fun _ => _)) _ () A C row b2 hg hr, Own.from (boxed_own _ _ (fun _ => _)) _ () A C row b3 hg hr⟩, ownFrom_below (Nat.le_refl _) (by simp; omega) () A C row hB hg hr⟩)
    ⟨(fun _ h => absurd h List.not_mem_nil), (((q0.alloc _).alloc _).alloc _).alloc _, ((q1.alloc _).alloc _).alloc _, (q2.alloc _).alloc _, q3.alloc _, hB0⟩
    (fun x a' W => ∃ Bx, w.heap.size + 4 ≤ Bx ∧ BoxN W Bx 23 (svCells x.2).toArray ∧ a' = { tmps := #[.slice a es.length cap, .string ⟨name.toArray⟩, .string ⟨proto.toArray⟩, undef, .pointer (some ⟨w.heap.size, 0, none⟩), .pointer (some ⟨w.heap.size + 1, 0, none⟩), .pointer (some ⟨w.heap.size + 1 + 1, 0, none⟩), .pointer (some ⟨w.heap.size + 1 + 1 + 1, 0, none⟩), .int .i64 x.1, .pointer (some ⟨Bx, 0, none⟩), .slice a es.length cap, .func (.func 49) #[] #[.pointer (some ⟨w.heap.size + 1 + 1 + 1 + 1, 0, none⟩)], .int .i64 x.1, svVal x.2, undef, undef, undef, undef, undef, undef, undef, undef, undef, undef, undef], defers := [] })
    (fun x a' s A B row ⟨Bx, h1, h2, h3⟩ hg hr => ⟨Bx, h1, Own.from (boxN_own Bx _ _) _ () A B row h2 hg hr, h3⟩)
    ?assign ?body ?done ?stop
  case assign =>
    rintro l pre x W K ⟨hp, b0, b1, b2, b3, hB⟩ hK
    obtain ⟨xk, xn, xp, x1, x2, x3, x4⟩ := x
    dsimp only [encP, svVal]
    gi_wp2
    exact hK _ _ ((KeepsOthers.alloc _ _).from _) ((Below.refl _ W).alloc hB.size _) ⟨hp, b0.alloc _, b1.alloc _, b2.alloc _, b3.alloc _, hB.alloc hB.size _⟩ ⟨W.heap.size, by have := b3.lt; omega, World.alloc_heap_new W _, rfl⟩
  case body =>
    rintro l pre x a' W hl _ ⟨hp, b0, b1, b2, b3, hB⟩ ⟨Bx, hBx, bX, rfl⟩ hlt
    obtain ⟨xk, xn, xp, x1, x2, x3, x4⟩ := x
    have d0 := b0.cell
    have d1 := b1.cell
    have d2 := b2.cell
    have d3 := b3.cell
    have g2 := b2.frozen
    have g3 := b3.frozen
    have c0 : W.cell? ⟨Bx, 0, none⟩ = some (.string ⟨xn.toArray⟩) := bX.cell 0
    have c1 : W.cell? ⟨Bx, 1, none⟩ = some (.string ⟨xp.toArray⟩) := bX.cell 1
    dsimp only [svVal]
    by_cases h1 : xn = name
    · subst h1
      by_cases h2 : xp = proto
      · subst h2
        gi_wp2
        exact ⟨((KeepsOthers.setCell _ _ _).trans (KeepsOthers.setCell _ _ _)).from _, rfl, ⟨pre, _, rfl, hp, ⟨rfl, rfl⟩, (b2.set _).other (by omega) _, (b3.other (by omega) _).set _⟩, (hB.setCell (p := ⟨w.heap.size + 1 + 1, 0, none⟩) (by simp; omega) _).setCell (p := ⟨w.heap.size + 1 + 1 + 1, 0, none⟩) (by simp; omega) _⟩
      · have h2' : (xp == proto) = false := by simp [h2]
        gi_wp2
        exact ⟨KeepsFrom.refl _ _, Below.refl _ _, hp.snoc (fun h => h2 h.2), b0, b1, b2, b3, hB⟩
    · have h1' : (xn == name) = false := by simp [h1]
      gi_wp2
      exact ⟨KeepsFrom.refl _ _, Below.refl _ _, hp.snoc (fun h => h1 h.1), b0, b1, b2, b3, hB⟩
  case done =>
    rintro D ys W hD rfl ⟨hp, b0, b1, b2, b3, hB⟩ hK
    have d2 := b2.cell
    have d3 := b3.cell
    have g2 := b2.frozen
    have g3 := b3.frozen
    gi_wp2
    have hK' := ((KeepsOthers.setCell W ⟨w.heap.size + 1 + 1, 0, none⟩ (.int .i64 0)).trans (KeepsOthers.setCell _ ⟨w.heap.size + 1 + 1 + 1, 0, none⟩ (.bool false))).same D _ hK rfl
    refine ⟨by simp, .inl ⟨_, _, rfl, run_takeDeferred hK', ?_⟩⟩
    have e2 := cell_kept (Boxed.other (B' := w.heap.size + 1 + 1 + 1) (b2.set (.int .i64 0)) (by omega) (.bool false)).cell (grownBy_putObj' _ D (.deferred none)) (fun r e => by cases e; exact ⟨_, hK', rfl⟩)
    have e3 := cell_kept ((Boxed.other (B' := w.heap.size + 1 + 1) b3 (by omega) (.int .i64 0)).set (.bool false)).cell (grownBy_putObj' _ D (.deferred none)) (fun r e => by cases e; exact ⟨_, hK', rfl⟩)
    refine ⟨.tuple #[.int .i64 0, .bool false], ?_, by rw [keyS_none hp], ((hB.setCell (p := ⟨w.heap.size + 1 + 1, 0, none⟩) (by simp; omega) _).setCell (p := ⟨w.heap.size + 1 + 1 + 1, 0, none⟩) (by simp; omega) _).trans (belowK_b (w := w) (Nat.le_refl _) _ D _ _ (by simp at hD; omega) hK' rfl rfl)⟩
    simp [results, Tryd.f17, go_sem, e2, e3]
  case stop =>
    rintro D c pre W hD hpre ⟨rfl, ⟨l, x, rfl, hp, hx, b2, b3⟩, hB⟩ hK
    gi_wp2
    refine ⟨by simp, .inl ⟨_, _, rfl, run_takeDeferred hK, ?_⟩⟩
    have e2 := cell_kept b2.cell (grownBy_putObj' _ D (.deferred none)) (fun r e => by cases e; exact ⟨_, hK, rfl⟩)
    have e3 := cell_kept b3.cell (grownBy_putObj' _ D (.deferred none)) (fun r e => by cases e; exact ⟨_, hK, rfl⟩)
    refine ⟨.tuple #[.int .i64 x.1, .bool true], ?_, by rw [keyS_some hx hp hpre], hB.trans (belowK_b (w := w) (Nat.le_refl _) W D _ _ (by simp at hD; omega) hK rfl rfl)⟩
    simp [results, Tryd.f17, go_sem, e2, e3]

end Go.Proofs.YtnoekcdmaaakfaaDoor.VL

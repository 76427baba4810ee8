/- Layer 25: the order of cuts, as the library's sort asks it. -/
import Derived.Test.YtnoekcdmaaakfaaZNetE
import Derived.Shelf.RegionOpenPlain
import Derived.WalkKit
import Derived.Deep.LoopGhost
import Derived.Deep.RegionLaw
import Derived.Lib.Walk
import Derived.Lib.SliceRun
import Derived.Sort.Grow
set_option linter.unusedVariables false
set_option linter.unusedSimpArgs false
set_option maxRecDepth 1000000
namespace Go.Proofs.Ytnoekcdmaaakfaa.VL
open Go Go.RowKit Go.Lib Go.Shelf Go.Sort

set_option maxHeartbeats 4000000 in
theorem or_calls (x y : Int) (W : World) (blk : Nat) (h0 : W.cell? ⟨blk, 0, none⟩ = some (.int .i64 x)) (h1 : W.cell? ⟨blk, 1, none⟩ = some (.int .i64 y)) :
    Calls Try.prog 53 #[.slice (some ⟨blk, 0, none⟩) 2 2] W fun e w' => e = .returned (.int .i64 (if x ≠ 0 then x else y)) ∧ w' = W := by
  have t89 := Try.underlying89
  go_enter Try.func53, Try.ntmps53
  go_wp2
  go_loop [8] (fun i => ∃ k : Nat, k ≤ 2 ∧ i = .int .i64 k ∧ (1 ≤ k → x = 0) ∧ (2 ≤ k → y = 0)) (fun i => 2 - (Go.RowKit.intOf i).toNat)
  case atStart => exact ⟨0, by omega, rfl, by omega, by omega⟩
  case round =>
    obtain ⟨k, hk, rfl, hx, hy⟩ := hrel
    rcases k with _ | _ | _ | k
    · by_cases h : x = 0
      · subst h
        go_wp2
        go_round
        case rel => exact ⟨1, by omega, by go_num, fun _ => trivial, by omega⟩
        case measure => simp [Go.RowKit.intOf]
      · go_wp2
        go_ret
        exact ⟨rfl, rfl⟩
    · obtain rfl := hx (by omega)
      by_cases h : y = 0
      · subst h
        go_wp2
        go_round
        case rel => exact ⟨2, by omega, by go_num, fun _ => trivial, fun _ => trivial⟩
        case measure => simp [Go.RowKit.intOf]
      · go_wp2
        go_ret
        exact ⟨rfl, rfl⟩
    · obtain rfl := hx (by omega)
      obtain rfl := hy (by omega)
      go_wp2
      go_ret
      exact ⟨rfl, rfl⟩
    · omega

/-- Cuts between the eight nodes. -/
abbrev C8 : Type := {c : Ct // (0 ≤ c.a ∧ c.a < 8) ∧ (0 ≤ c.b ∧ c.b < 8)}
instance : Inhabited C8 := ⟨⟨⟨0, 0⟩, by decide⟩⟩
def enc8 (c : C8) : List Value := [.int .i64 c.1.a, .int .i64 c.1.b]
set_option maxHeartbeats 4000000 in
theorem order_calls (x y : C8) (W : World) : Calls Try.prog 40 #[.agg #[.int .i64 x.1.a, .int .i64 x.1.b], .agg #[.int .i64 y.1.a, .int .i64 y.1.b]] W fun e w' => e = .returned (.int .i64 (ordC x.1 y.1)) ∧ ∃ q os', w' = grow (W.drewN q) os' := by
  obtain ⟨⟨xa, xb⟩, ⟨x0, x1⟩, x2, x3⟩ := x
  obtain ⟨⟨ya, yb⟩, ⟨y0, y1⟩, y2, y3⟩ := y
  dsimp only at *
  have t89 := Try.underlying89
  go_enter Try.func40, Try.ntmps40
  go_wp2_with (go_at_call 53; refine (or_calls (xa - ya) (xb - yb) _ _ ?_ ?_).mono ?_; rotate_left; rotate_left; rintro e w' ⟨rfl, rfl⟩)
  · go_ret
    refine ⟨?_, 0, _, by rw [alloc_eq_grow, alloc_eq_grow, alloc_eq_grow, grow_grow, grow_grow]; rfl⟩
    unfold ordC
    rw [if_neg (by dsimp only; omega)]
    rfl
  · go_ret
    refine ⟨?_, 0, _, by rw [alloc_eq_grow, alloc_eq_grow, alloc_eq_grow, grow_grow, grow_grow]; rfl⟩
    unfold ordC
    rw [if_pos (by dsimp only; omega)]
    rfl
  all_goals (unfold wrap64; omega)

end Go.Proofs.Ytnoekcdmaaakfaa.VL

/- Layer 25: one element is taken out of a row. -/
import Derived.Test.YtnoekcdmaaakfaaZNetC
import Derived.Shelf.RegionOpenPlain
import Derived.WalkKit
import Derived.Deep.LoopGhost
import Derived.Deep.RegionLaw
import Derived.Lib.Walk
import Derived.Lib.SliceRun
import Derived.Lib.SlicesDelete
set_option linter.unusedVariables false
set_option linter.unusedSimpArgs false
set_option maxRecDepth 1000000
namespace Go.Proofs.Ytnoekcdmaaakfaa.VL
open Go Go.RowKit Go.Lib Go.Shelf

set_option maxHeartbeats 4000000 in
theorem delete_calls (w : World) (k s n cap i j : Nat) (hij : i < j) (hjn : j ≤ n) (hcap : n ≤ cap) (news zs : List Value)
    (hn : news.length = (n - j) * 3) (A : Addr) (hA : (if cap = j then (some ⟨k, s, none⟩ : Option Addr) else some ⟨k, s + j * 3, none⟩) = some A) (hsrc : ∀ t u, news[t]? = some u → w.drew.cell? (A.add t) = some u) (h1 : ∀ u ∈ news, u.oneCell' = true)
    (hsp : ∀ t, t < news.length → (w.drew.cell? ⟨k, s + i * 3 + t, none⟩).isSome = true ∧ w.drew.frozen? ⟨k, s + i * 3 + t, none⟩ = false) (W1 : World) (hW : W1 = w.drew.setCells k (s + i * 3) news)
    (hcl : ∀ ty, (Builtin.clear_ #[22] ty #[.slice (some ⟨k, s + (i + (n - j)) * 3, none⟩) (n - (i + (n - j))) (cap - (i + (n - j)))]).run Try.prog W1 = .ok (.tuple #[]) (W1.setCells k (s + (i + (n - j)) * 3) zs)) :
    Calls Try.prog 48 #[.slice (some ⟨k, s, none⟩) n cap, .int .i64 i, .int .i64 (j : Int)] w fun e w' => e = .returned (.slice (some ⟨k, s, none⟩) (i + (n - j)) cap) ∧ w' = W1.setCells k (s + (i + (n - j)) * 3) zs := by
  have t22 := Try.underlying22
  have mixed : Try.prog.follows .mixedOrders = true := rfl
  have hic : i ≤ cap := by omega
  have hjc : j ≤ cap := by omega

  go_enter Try.func48, Try.ntmps48
  have s1 : Hid (news.length = (n - j) * 3) := hn
  have s2 : Hid (∀ u ∈ news, u.oneCell' = true) := h1
  have s3 : Hid (∀ t, t < news.length → (w.drew.cell? ⟨k, s + i * 3 + t, none⟩).isSome = true ∧ w.drew.frozen? ⟨k, s + i * 3 + t, none⟩ = false) := hsp
  have s4 : Hid (∀ t u, news[t]? = some u → w.drew.cell? (A.add t) = some u) := hsrc
  have s5 : Hid (W1 = w.drew.setCells k (s + i * 3) news) := hW
  obtain ⟨i0, zv, hi0, _, hz1', _⟩ := zero_full (P := Try.prog) (e := 33) (z := [vi 0, vi 0, .emp]) (by kernel_rfl)
  have hz1 : i0.size = 3 := by rw [hz1']; kernel_rfl
  clear hz1'
  clear hn h1 hsp hsrc hW
  go_wp2_with fail
  go_region_law_o (refine step_append_room rfl (.tmp 22) (.tmp 25) 22 rfl 33 i0 3 t22 hi0 hz1 k s i cap (by simp [Act.eval, Act.put]) A (n - j) (cap - j) news (by simp [Act.eval, Act.put]; first | exact hA | omega | skip) s1.out s4.out s2.out (by omega) s3.out ?_; rw [← s5.out])
  go_wp2
  all_goals (go_ret; exact ⟨rfl, rfl⟩)

theorem stor_eq : ∀ (vs : List Value) (w : World) (k s : Nat), w.setCells k s vs = stor w k s vs
  | [], _, _, _ => rfl
  | v :: vs, w, k, s => by rw [World.setCells, stor, stor_eq vs]
theorem flat_drop (l : List Ml) (i : Nat) : (mlF l).drop (i * 3) = mlF (l.drop i) := by
  induction l generalizing i with
  | nil => simp [mlF, flat]
  | cons m l ih =>
    cases i with
    | zero => simp
    | succ i => rw [mlF_cons, Nat.succ_mul, List.drop_succ_cons, List.drop_succ_cons, List.drop_succ_cons, List.drop_succ_cons, ih]
theorem flat_take (l : List Ml) (i : Nat) : (mlF l).take (i * 3) = mlF (l.take i) := by
  induction l generalizing i with
  | nil => simp [mlF, flat]
  | cons m l ih =>
    cases i with
    | zero => simp [mlF, flat]
    | succ i => rw [mlF_cons, Nat.succ_mul, List.take_succ_cons, List.take_succ_cons, List.take_succ_cons, List.take_succ_cons, mlF_cons, ih]
theorem mlF_app (l m : List Ml) : mlF (l ++ m) = mlF l ++ mlF m := by simp [mlF, flat]
/-- What a row holds behind a taking. -/
theorem del_cells (l : List Ml) (i : Nat) (hi : i < l.length) (z : List AV) (hz : z.length = 3) :
    (splice (splice (mlF l) (i * 3) (mlF (l.drop (i + 1)))) ((i + (l.length - (i + 1))) * 3) z).take ((l.length - 1) * 3) = mlF (l.take i ++ l.drop (i + 1)) := by
  have hl := mlF_length l
  have hd : (mlF (l.drop (i + 1))).length = (l.length - (i + 1)) * 3 := by rw [mlF_length, List.length_drop]
  apply List.ext_getElem?
  intro t
  rw [mlF_app, ← flat_take, List.getElem?_take]
  by_cases ht : t < (l.length - 1) * 3
  · rw [if_pos ht, splice_get _ _ _ _ (by rw [splice_length, hl, hz]; omega), if_neg (by omega), splice_get _ _ _ _ (by rw [hl, hd]; omega)]
    by_cases h1 : i * 3 ≤ t
    · rw [if_pos ⟨h1, by rw [hd]; omega⟩, List.getElem?_append_right (by rw [List.length_take, hl]; omega), List.length_take, hl, Nat.min_eq_left (by omega)]
    · rw [if_neg (by omega), List.getElem?_append_left (by rw [List.length_take, hl]; omega), List.getElem?_take, if_pos (by omega)]
  · rw [if_neg ht, List.getElem?_eq_none (by rw [List.length_append, List.length_take, hl, hd]; omega)]

set_option maxHeartbeats 4000000 in
theorem delM_spec (b g : Nat) (l : List Ml) (i : Nat) (hi : i < l.length) (H : List Box) (hb : H[b]? = some ⟨mlF l, 0, g, true⟩) :
    ASpec Try.prog 48 [.sl b g 0 l.length 3 false, vi i, vi ((i : Int) + 1)] H (fun o H' => o = .ret (.sl b g 0 (l.length - 1) 3 false) ∧ H' = H.set b ⟨mlF (l.take i ++ l.drop (i + 1)), 0, g, true⟩) := fun base w β vs hI hr => by
  obtain ⟨hvs, hrr⟩ := hr
  have hv3 : vs.size = 3 := by rw [← hvs]; rfl
  obtain ⟨v0, v1, v2, rfl⟩ : ∃ v0 v1 v2, vs = #[v0, v1, v2] := by
    obtain ⟨vl⟩ := vs
    match vl, hv3 with
    | [a, b, c], _ => exact ⟨a, b, c, rfl⟩
  have r0 := hrr 0 _ v0 rfl rfl
  have r1 := hrr 1 _ v1 rfl rfl
  have r2 := hrr 2 _ v2 rfl rfl
  cases r1
  cases r2
  have hbl : b < H.length := (List.getElem?_eq_some_iff.1 hb).1
  obtain ⟨bx, e1, e2, a, cap, rfl, e4, e5, e6⟩ := live_sl (by simp [live, hb]) r0
  rw [hb] at e1
  obtain rfl := Option.some.inj e1
  obtain ⟨k, s, c, et, fr, f1, f2, f3, f4⟩ := e6 (by omega)
  subst f2
  simp only [Nat.add_zero] at f4
  have hl3 := mlF_length l
  obtain ⟨hI0, hS0⟩ := still (w' := w.drew) hI (Wor.drawn w _) (fun _ _ _ => rfl)
  have hval : ∀ t, t < l.length * 3 → ∃ x, w.drew.cell? ⟨k, s + t, none⟩ = some x ∧ x.oneCell' = true ∧ ∀ d, (mlF l)[t]? = some d → Rep w.drew H β d x := fun t ht => by
    obtain ⟨x, g1, g2, g3⟩ := hI0.cells b _ k s hb f1 t _ (List.getElem?_eq_getElem (by rw [hl3]; exact ht))
    exact ⟨x, g1, g2, fun d hd => by rw [List.getElem?_eq_getElem (by rw [hl3]; exact ht)] at hd; injection hd with hd; rw [← hd]; exact g3⟩
  obtain ⟨news, hnews⟩ : ∃ news : List Value, news = (List.range ((l.length - (i + 1)) * 3)).map fun t => (w.drew.cell? ⟨k, s + (i + 1) * 3 + t, none⟩).getD undef := ⟨_, rfl⟩
  have hnl : news.length = (l.length - (i + 1)) * 3 := by rw [hnews]; simp
  have hget : ∀ t u, news[t]? = some u → w.drew.cell? ⟨k, s + (i + 1) * 3 + t, none⟩ = some u ∧ u.oneCell' = true ∧ ∀ d, (mlF l)[(i + 1) * 3 + t]? = some d → Rep w.drew H β d u := fun t u hu => by
    have htl : t < (l.length - (i + 1)) * 3 := by have := (List.getElem?_eq_some_iff.1 hu).1; omega
    obtain ⟨x, g1, g2, g3⟩ := hval ((i + 1) * 3 + t) (by omega)
    rw [← Nat.add_assoc] at g1
    rw [hnews, List.getElem?_map, List.getElem?_range htl] at hu
    simp only [Option.map_some, Option.some.injEq] at hu
    rw [g1] at hu
    simp only [Option.getD_some] at hu
    subst hu
    exact ⟨g1, g2, g3⟩
  have h1c : ∀ u ∈ news, u.oneCell' = true := fun u hu => by
    obtain ⟨t, ht⟩ := List.mem_iff_getElem?.1 hu
    exact (hget t u ht).2.1
  have hd3 : (mlF (l.drop (i + 1))).length = (l.length - (i + 1)) * 3 := by rw [mlF_length, List.length_drop]
  obtain ⟨q1, q2, q3⟩ := write_box (P := Try.prog) (o' := i * 3) hI0 hb f1 (mlF (l.drop (i + 1))) news (by rw [hnl, hd3]) (fun t d y hd hy => by
    rw [← flat_drop, List.getElem?_drop] at hd
    exact (hget t y hy).2.2 d hd) h1c (Nat.zero_le _) (by dsimp only; rw [hl3, hd3]; omega)
  obtain ⟨W1, hW1⟩ : ∃ W1, W1 = stor w.drew k (s + i * 3) news := ⟨_, rfl⟩
  rw [← hW1] at q2 q3
  dsimp only at q2 q3
  obtain ⟨i0, zv, z1, z2, z3, z4, z5, z6⟩ := zero_full (P := Try.prog) (e := 33) (z := [vi 0, vi 0, .emp]) (by kernel_rfl)
  have hzs : zv.cells.size = 3 := by have := congrArg List.length z5; simp at this; omega
  have hzc : (Builtin.zeroCells zv.cells 1).toList = zv.cells.toList := by
    apply List.ext_getElem?
    intro t
    rw [Array.getElem?_toList, Array.getElem?_toList, Builtin.zeroCells, Array.getElem?_map]
    by_cases ht : t < zv.cells.size
    · rw [Array.getElem?_range, if_pos (by omega), Option.map_some, Nat.mod_eq_of_lt ht, getElem!_pos zv.cells _ ht, Array.getElem?_eq_getElem ht]
    · rw [Array.getElem?_range, if_neg (by omega), Array.getElem?_eq_none (by omega)]; rfl
  have hb1 : (H.set b ⟨splice (mlF l) (i * 3) (mlF (l.drop (i + 1))), 0, g, true⟩)[b]? = some ⟨splice (mlF l) (i * 3) (mlF (l.drop (i + 1))), 0, g, true⟩ := List.getElem?_set_self hbl
  obtain ⟨p1, p2, p3⟩ := write_box (P := Try.prog) (o' := (i + (l.length - (i + 1))) * 3) q2 hb1 f1 [vi 0, vi 0, .emp] zv.cells.toList (by rw [Array.length_toList, hzs]; rfl) (fun t d y hd hy => by
    rw [z5, List.getElem?_map, hy] at hd
    simp only [Option.map_some, Option.some.injEq] at hd
    rw [← hd]
    exact rep_zcell _) (fun v hv => by
      obtain ⟨t, ht⟩ := List.mem_iff_getElem?.1 hv
      rw [Array.getElem?_toList] at ht
      exact z6 t v ht) (Nat.zero_le _) (by dsimp only; rw [splice_length, hl3]; simp only [List.length_cons, List.length_nil]; omega)
  rw [List.set_set] at p2 p3
  dsimp only at p2 p3
  have hone : l.length - (i + (l.length - (i + 1))) = 0 + 1 := by omega
  have hcl : ∀ ty, (Builtin.clear_ #[22] ty #[.slice (some ⟨k, s + (i + (l.length - (i + 1))) * 3, none⟩) (l.length - (i + (l.length - (i + 1)))) (cap - (i + (l.length - (i + 1))))]).run Try.prog W1 = .ok (.tuple #[]) (W1.setCells k (s + (i + (l.length - (i + 1))) * 3) zv.cells.toList) := fun ty => by
    rw [hone, stor_eq]
    rw [← hzc] at p1 ⊢
    simp [Builtin.clear_, run_underlying Try.underlying22, zeroValue, typeInfo, z1, z2, p1]
  obtain ⟨A, hA⟩ : ∃ A : Addr, (if cap = i + 1 then (some ⟨k, s, none⟩ : Option Addr) else some ⟨k, s + (i + 1) * 3, none⟩) = some A := by split <;> exact ⟨_, rfl⟩
  have hsrc : ∀ t u, news[t]? = some u → w.drew.cell? (A.add t) = some u := fun t u hu => by
    by_cases hc : cap = i + 1
    · have := (List.getElem?_eq_some_iff.1 hu).1
      omega
    · rw [if_neg hc] at hA
      injection hA with hA
      rw [← hA, add_plain]
      exact (hget t u hu).1
  have hcalls := delete_calls w k s l.length cap i (i + 1) (by omega) (by omega) e4 news zv.cells.toList hnl A hA hsrc h1c (fun t ht => by
    have ht' : i * 3 + t < l.length * 3 := by omega
    obtain ⟨x, g1, _, _⟩ := hval (i * 3 + t) ht'
    rw [← Nat.add_assoc] at g1
    exact ⟨by rw [g1]; rfl, hI0.free k _ ⟨b, _, s, hb, f1, by dsimp only; omega, .inl rfl⟩⟩) W1 (by rw [hW1, stor_eq]) hcl
  refine .inl ⟨Try.call48 _ w, hcalls.mono ?_⟩
  rintro e w' ⟨rfl, rfl⟩
  rw [stor_eq]
  obtain ⟨t1, t2⟩ := trim_inv (m := (l.length - 1) * 3) p2 (List.getElem?_set_self hbl) rfl (Nat.zero_le _) (by dsimp only; rw [splice_length, splice_length, hl3]; omega)
  rw [List.set_set] at t1 t2
  dsimp only at t1 t2
  rw [del_cells l i hi _ rfl] at t1 t2
  refine ⟨_, _, β, ⟨rfl, rfl⟩, ?_, t1, hS0.trans (q3.trans (p3.trans t2))⟩
  show Rep _ _ β _ _
  have hlast : i + (l.length - (i + 1)) = l.length - 1 := by omega
  rw [hlast]
  obtain ⟨c1, g1, g2⟩ := (Wor.stor news w.drew k (s + i * 3)).shape k c et fr f3
  rw [← hW1] at g1
  obtain ⟨c2, g3, g4⟩ := (Wor.stor zv.cells.toList W1 k (s + (l.length - 1) * 3)).shape k c1 et fr g1
  exact rep_sl (bx := ⟨mlF (l.take i ++ l.drop (i + 1)), 0, g, true⟩) (List.getElem?_set_self hbl) rfl ⟨some ⟨k, s, none⟩, cap, rfl, by omega, fun h => absurd h (by simp), fun _ => ⟨k, s, c2, et, fr, f1, rfl, g3, by omega⟩⟩

end Go.Proofs.Ytnoekcdmaaakfaa.VL

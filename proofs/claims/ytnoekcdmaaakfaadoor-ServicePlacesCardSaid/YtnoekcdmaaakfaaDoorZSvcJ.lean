/- Layer 15: a table's services, a service's key: in the value logic. -/
import Derived.Test.YtnoekcdmaaakfaaDoorZSvcI
set_option linter.unusedVariables false
set_option linter.unusedSimpArgs false
set_option maxRecDepth 10000
namespace Go.Proofs.YtnoekcdmaaakfaaDoor.VL
open Go Go.RowKit Go.Lib

theorem below_step {base : Nat} {w w' : World} {H : List Box} {β : Pl} (hI : Inv base w H β) (h : Below w.heap.size w w') : Inv base w' H β ∧ Stp base w H β w' H β := by
  refine still hI ⟨h.os, h.tape, h.output, h.size, fun k c e fr hk => ⟨c, ?_, rfl⟩, fun k o hk _ => ?_⟩ fun k x hk => ?_
  · rw [h.block k (Array.getElem?_eq_some_iff.1 hk).1]; exact hk
  · rw [h.block k (Array.getElem?_eq_some_iff.1 hk).1]; exact hk
  · exact World.cell?_of_block (h.block k hk)
/-- A contract that was proved by a concrete walk. -/
theorem aspec_of_calls {P : Program} {f : FuncId} {args : List AV} {H : List Box} {r : AV} (hcall : ∀ vs w, (callFunc f vs).run P w = .ok (.enter f vs) w)
    (h : ∀ (w : World) (β : Pl) (vs : Array Value), Reps w H β args vs → Calls P f vs w fun e w' => ∃ v, e = .returned v ∧ Below w.heap.size w w' ∧ ((∀ k x, w.heap.size ≤ k → ¬ Wr H β k x) → Rep w' H β r v)) : ASpec P f args H (Gives r H) := fun base w β vs hI hr => by
  refine .inl ⟨hcall vs w, (h w β vs hr).mono ?_⟩
  rintro e w' ⟨v, rfl, hB, hv⟩
  obtain ⟨h1, h2⟩ := below_step hI hB
  refine ⟨.ret r, H, β, ⟨rfl, rfl⟩, hv fun k x hk => ?_, h1, h2⟩
  rintro ⟨i, bx, s, g1, g2, _⟩
  have := (hI.real i bx k s g1 g2).2
  omega
theorem reps1 {w : World} {H : List Box} {β : Pl} {a : AV} {vs : Array Value} (h : Reps w H β [a] vs) : ∃ v, vs = #[v] ∧ Rep w H β a v := by
  obtain ⟨h1, h2⟩ := h
  have h1 : 1 = vs.size := h1
  refine ⟨vs[0], ?_, h2 0 a _ rfl (Array.getElem?_eq_getElem (by omega))⟩
  apply Array.ext
  · simp; omega
  · intro i hi hj
    obtain rfl : i = 0 := by omega
    rfl
theorem reps3 {w : World} {H : List Box} {β : Pl} {a b c : AV} {vs : Array Value} (h : Reps w H β [a, b, c] vs) : ∃ u v x, vs = #[u, v, x] ∧ Rep w H β a u ∧ Rep w H β b v ∧ Rep w H β c x := by
  obtain ⟨h1, h2⟩ := h
  have h1 : 3 = vs.size := h1
  refine ⟨vs[0], vs[1], vs[2], ?_, h2 0 a _ rfl (Array.getElem?_eq_getElem (by omega)), h2 1 b _ rfl (Array.getElem?_eq_getElem (by omega)), h2 2 c _ rfl (Array.getElem?_eq_getElem (by omega))⟩
  apply Array.ext
  · simp; omega
  · intro i hi hj
    rcases i with _ | _ | _ | i
    · rfl
    · rfl
    · rfl
    · omega
theorem tabV_of {w : World} {H : List Box} {β : Pl} {es : List En} {v : Value} (h : Rep w H β (.lst 3 (enG es)) v) : ∃ a cap, v = .slice a es.length cap ∧ TabV w.heap.size w a es := by
  generalize hg : enG es = gs at h
  cases h with
  | lst0 sz a cap =>
    have : es = [] := by
      have := congrArg List.length hg
      simpa using this
    subst this
    exact ⟨a, cap, rfl, .inl rfl⟩
  | lst sz gs k s cap x hn hgl hc hr =>
    subst hg
    refine ⟨some ⟨k, s, none⟩, cap, by rw [enG_length], ?_⟩
    by_cases he : es = []
    · exact .inl he
    · refine .inr ⟨k, s, rfl, ?_, fun j y hj => ?_⟩
      · obtain ⟨e, l, rfl⟩ := List.exists_cons_of_ne_nil he
        exact cell_lt (hc 0 0 (enC e) (vi e.k) rfl rfl).1
      · have hj' : (enG es)[j]? = some (enC y) := by rw [enG_get, hj]; rfl
        have c0 := hc j 0 _ (vi y.k) hj' rfl
        have c1 := hc j 1 _ (vi y.v) hj' rfl
        have c2 := hc j 2 _ (vs y.s) hj' rfl
        have r0 := rep_v (hr j 0 _ (vi y.k) hj' rfl)
        have r1 := rep_v (hr j 1 _ (vi y.v) hj' rfl)
        have r2 := rep_v (hr j 2 _ (vs y.s) hj' rfl)
        rw [r0] at c0
        rw [r1] at c1
        rw [r2] at c2
        exact ⟨c0.1, c1.1, c2.1⟩
theorem flatS_get : ∀ (l : List (Int × Sv)) (i j : Nat), j < 6 → (flatS l)[i * 6 + j]? = (l[i]?).bind fun x => (svCells x.2)[j]?
  | [], i, j, _ => by simp [flatS]
  | x :: l, 0, j, hj => by
    have : flatS (x :: l) = svCells x.2 ++ flatS l := by simp [flatS]
    rw [this, Nat.zero_mul, Nat.zero_add, List.getElem?_append_left (by simpa [svCells] using hj)]
    rfl
  | x :: l, i + 1, j, hj => by
    have : flatS (x :: l) = svCells x.2 ++ flatS l := by simp [flatS]
    have h6 : (svCells x.2).length = 6 := rfl
    rw [this, List.getElem?_append_right (by omega), h6, show (i + 1) * 6 + j - 6 = i * 6 + j by omega, flatS_get l i j hj]
    rfl
/-- The services of a table. -/
def allS (es : List En) : List Sv := (prs es).map (·.2)

theorem all_spec (es : List En) (hlen : es.length ≤ 1048576) (hs : ∀ x ∈ es, x.s.length ≤ 1099511627776) (H : List Box) : ASpec Tryd.prog 20 [.lst 3 (enG es)] H (Gives (.lst 6 (svG (allS es))) H) := by
  refine aspec_of_calls (fun vs w => Tryd.call20 vs w) fun w β vs hr => ?_
  obtain ⟨v, rfl, hv⟩ := reps1 hr
  obtain ⟨a, cap, rfl, hT⟩ := tabV_of hv
  refine (callsIn_wide.1 (all_in a cap es hlen hs w hT)).mono ?_
  rintro e W' ⟨v, rfl, ⟨hxl, hown⟩, hB⟩
  refine ⟨v, rfl, hB, fun hw => ?_⟩
  unfold allS
  generalize prs es = l at *
  rcases hown with ⟨rfl, h0⟩ | ⟨g, cap', cur, rfl, hg, hheap, hncap, _, hsz, htake⟩
  · have : l = [] := List.length_eq_zero_iff.1 h0
    subst this
    exact .lst0 _ _ _
  · have hget : ∀ i (x : Int × Sv), l[i]? = some x → ∀ j, j < 6 → cur[i * 6 + j]? = (svCells x.2)[j]? := fun i x hi j hj => by
      have hil := (List.getElem?_eq_some_iff.1 hi).1
      have := flatS_get l i j hj
      rw [hi, ← htake, List.getElem?_take_of_lt (by omega), Array.getElem?_toList] at this
      exact this
    have hm : ∀ i c, (svG (l.map (·.2)))[i]? = some c → ∃ x : Int × Sv, l[i]? = some x ∧ c = svC x.2 := fun i c hi => by
      rw [svG_get, List.getElem?_map, Option.map_map] at hi
      obtain ⟨x, h1, h2⟩ := Option.map_eq_some_iff.1 hi
      exact ⟨x, h1, h2.symm⟩
    have := Rep.lst (w := W') (H := H) (β := β) 6 (svG (l.map (·.2))) g 0 cap' (fun i j => (cur[i * 6 + j]?).getD undef) (by simpa using hncap) (fun i c hi => by obtain ⟨x, _, rfl⟩ := hm i c hi; rfl)
      (fun i j c d hi hj => by
        obtain ⟨x, h1, rfl⟩ := hm i c hi
        have hj6 : j < 6 := (List.getElem?_eq_some_iff.1 hj).1
        have h2 := hget i x h1 j hj6
        refine ⟨?_, ?_, hw g _ hg⟩
        · have hlt : j < (svCells x.2).length := hj6
          rw [World.cell?, hheap]
          (try dsimp only)
          rw [Nat.zero_add, h2, List.getElem?_eq_getElem hlt]
          rfl
        · (try dsimp only)
          rw [h2]
          rcases j with _ | _ | _ | _ | _ | _ | j
          all_goals first | rfl | omega)
      (fun i j c d hi hj => by
        obtain ⟨x, h1, rfl⟩ := hm i c hi
        have hj6 : j < 6 := (List.getElem?_eq_some_iff.1 hj).1
        have h2 := hget i x h1 j hj6
        (try dsimp only)
        rw [h2]
        rcases j with _ | _ | _ | _ | _ | _ | j
        all_goals first | omega | (simp at hj; subst hj; exact .v _))
    simpa using this

theorem key_spec (es : List En) (name proto : List UInt8) (hlen : es.length ≤ 1048576) (hs : ∀ x ∈ es, x.s.length ≤ 1099511627776) (H : List Box) :
    ASpec Tryd.prog 17 [.lst 3 (enG es), vs name, vs proto] H (Gives (.tup [vi (keyS name proto (prs es)).1, vb (keyS name proto (prs es)).2]) H) := by
  refine aspec_of_calls (fun vs w => Tryd.call17 vs w) fun w β vs hr => ?_
  obtain ⟨v, n, p, rfl, hv, hn, hp⟩ := reps3 hr
  obtain ⟨a, cap, rfl, hT⟩ := tabV_of hv
  rw [rep_v hn, rep_v hp]
  refine (callsIn_wide.1 (key_in a cap es name proto hlen hs w hT)).mono ?_
  rintro e W' ⟨rfl, hB⟩
  refine ⟨_, rfl, hB, fun _ => .tup _ _ rfl fun i c x h1 h2 => ?_⟩
  rcases i with _ | _ | i
  · simp at h1 h2; subst h1; subst h2; exact .v _
  · simp at h1 h2; subst h1; subst h2; exact .v _
  · simp at h1

end Go.Proofs.YtnoekcdmaaakfaaDoor.VL

/- Layer 25: the library's sort, as a contract on boxes. -/
import Derived.Test.YtnoekcdmaaakfaaZNetPB
set_option linter.unusedVariables false
set_option linter.unusedSimpArgs false
set_option maxRecDepth 100000
namespace Go.Proofs.Ytnoekcdmaaakfaa.VL
open Go Go.RowKit Go.Lib Go.Shelf Go.Sort

set_option maxHeartbeats 4000000 in
theorem sortC_calls (blk off cap : Nat) (d : Array C8) (w : World) (hH : HoldsK enc8 2 w blk off d) (hblk : blk < w.heap.size) (hsz : d.size < 4611686018427387904) :
    Calls Try.prog 39 #[.slice (some ⟨blk, off, none⟩) d.size cap, .func (.func 40) #[] #[]] w fun e w' =>
      e = .returned (.tuple #[]) ∧ ∃ d' n os, PermIn 0 d.size d d' ∧ SortedIn (ltOf fun x y : C8 => ordC x.1 y.1) 0 d.size d' ∧ w' = sortWorldK enc8 2 w blk off n d' os := by
  have eg : ∀ args w, (callFunc 40 args).run Try.prog w = .ok (.enter 40 args) w := enters_of Try.func40 (by kernel_rfl) rfl
  exact AnyQ.slices_SortFunc sortLaid 2 Try.isAgg58 Try.sizeOf58 enc8 (fun _ => rfl) (fun x v hv => by simp [enc8] at hv; rcases hv with rfl | rfl <;> rfl) (fun x y => ordC x.1 y.1) swo8 40 #[] blk off cap d w eg (fun _ _ _ _ x y => order_calls x y _) hH hblk hsz

set_option maxHeartbeats 4000000 in
theorem sortC_spec (b g : Nat) (m : List C8) (l' : List Ct) (hp : l'.Perm (m.map (·.1))) (hs : l'.Pairwise fun x y => keyC x < keyC y) (hne : 0 < m.length) (h62 : m.length < 4611686018427387904) (H : List Box) (hb : H[b]? = some ⟨ctF (m.map (·.1)), 0, g, true⟩) :
    ASpec Try.prog 39 [.sl b g 0 m.length 2 false, .fn 40 []] H (fun o H' => o = .ret (.tup []) ∧ H' = H.set b ⟨ctF l', 0, g, true⟩) := fun base w β vs hI hr => by
  obtain ⟨hvs, hrr⟩ := hr
  have hv2 : vs.size = 2 := by rw [← hvs]; rfl
  obtain ⟨v0, v1, rfl⟩ : ∃ v0 v1, vs = #[v0, v1] := by
    obtain ⟨vl⟩ := vs
    match vl, hv2 with
    | [a, b], _ => exact ⟨a, b, rfl⟩
  have r0 := hrr 0 _ v0 rfl rfl
  have r1 := hrr 1 _ v1 rfl rfl
  obtain rfl : v1 = .func (.func 40) #[] #[] := by
    cases r1 with
    | fn _ _ us hl _ => rw [Array.eq_empty_of_size_eq_zero (xs := us) (by simpa using hl.symm)]
  have hbl : b < H.length := (List.getElem?_eq_some_iff.1 hb).1
  obtain ⟨bx, e1, e2, a, cap, rfl, e4, e5, e6⟩ := live_sl (by simp [live, hb]) r0
  rw [hb] at e1
  obtain rfl := Option.some.inj e1
  obtain ⟨k, s, c, et, fr, f1, f2, f3, f4⟩ := e6 (by omega)
  subst f2
  simp only [Nat.add_zero] at f4
  have hcl : (ctF (m.map (·.1))).length = m.length * 2 := by rw [ctF_length, List.length_map]
  have hds : m.toArray.size = m.length := by simp
  have hblk : k < w.heap.size := (Array.getElem?_eq_some_iff.1 f3).1
  have hH : HoldsK enc8 2 w k s m.toArray := fun t ht => by
    rw [size_flatK, hds] at ht
    have hc : (ctF (m.map (·.1)))[t]? = some (.v ((flatK enc8 2 m.toArray)[t]!)) := by
      rw [ctF_enc, List.getElem?_map, enc_get m t ht, get_flatK _ _ _ _ (by simpa using ht)]
      simp
    obtain ⟨x, g1, g2, g3⟩ := hI.cells b _ k s hb f1 t _ hc
    cases g3
    exact ⟨g1, hI.free k _ ⟨b, _, s, hb, f1, by dsimp only; omega, .inl rfl⟩⟩
  have hcalls := sortC_calls k s cap m.toArray w hH hblk (by rw [hds]; exact h62)
  rw [hds] at hcalls
  refine .inl ⟨Try.call39 _ w, hcalls.mono ?_⟩
  rintro e w' ⟨rfl, d', n, os, hpm, hsd, rfl⟩
  obtain ⟨q1, q2, q3⟩ := hpm
  rw [hds] at q1
  have hq : d'.toList.Perm m := by
    have h1 : (d'.extract 0 m.length).toList = d'.toList := by rw [← q1]; simp
    have h2 : (m.toArray.extract 0 m.length).toList = m := by simp
    rwa [h1, h2] at q3
  have hl : l' = d'.toList.map (·.1) := by
    refine uniq_sorted l' _ (hp.trans (hq.symm.map _)) hs ?_
    rw [List.pairwise_map, List.pairwise_iff_getElem]
    intro i j hi hj hij
    have h := hsd i j (Nat.zero_le _) hij (by simpa [q1] using hj)
    have x1 := getElem!_pos d' i (by simpa using hi)
    have x2 := getElem!_pos d' j (by simpa using hj)
    rw [x1, x2] at h
    unfold ltOf at h
    rw [ord8' _ _ d'[j].2.1 d'[j].2.2 d'[i].2.1 d'[i].2.2] at h
    simp only [decide_eq_false_iff_not] at h
    simp only [Array.getElem_toList, keyC]
    omega
  obtain ⟨hI0, hS0⟩ := still (w' := Sort.ahead w n) hI (Wor.drawn w _) (fun _ _ _ => rfl)
  have hdl : d'.toList.length = m.length := by simpa using q1
  have hput : putRowK enc8 2 (Sort.ahead w n) k s d' = stor (Sort.ahead w n) k (s + 0) (d'.toList.flatMap enc8) := by
    have h1 := setCells_putRow (Sort.ahead w n) k s (d'.toList.flatMap enc8) 0 (flatK enc8 2 m.toArray) (by rw [size_flatK, flat_len8, hdl, hds]; omega)
    rw [setMany_all _ _ (by rw [size_flatK, hds, hdl]), putRow_self id (Sort.ahead w n) k s _ hH, stor_eq] at h1
    unfold putRowK
    rw [h1]
  obtain ⟨_, p2, p3⟩ := write_box (P := Try.prog) (o' := 0) hI0 hb f1 (ctF l') (d'.toList.flatMap enc8) (by rw [ctF_length, flat_len8, hl, List.length_map]) (fun i d y h1 h2 => by
    rw [hl, ctF_enc, List.getElem?_map, h2] at h1
    simp only [Option.map_some, Option.some.injEq] at h1
    rw [← h1]
    exact .v _) (fun v hv => by
      obtain ⟨x, _, hx⟩ := List.mem_flatMap.1 hv
      simp [enc8] at hx
      rcases hx with rfl | rfl <;> rfl) (Nat.zero_le _) (by dsimp only; rw [hcl, ctF_length, hl, List.length_map, hdl]; omega)
  dsimp only at p2 p3
  rw [splice_all _ _ (by rw [hcl, ctF_length, hl, List.length_map, hdl])] at p2 p3
  obtain ⟨t1, t2⟩ := grow_still p2 os
  unfold sortWorldK
  rw [hput]
  exact ⟨_, _, β, ⟨rfl, rfl⟩, .tup _ _ rfl (fun i c x h1 _ => by simp at h1), t1, hS0.trans (p3.trans t2)⟩

end Go.Proofs.Ytnoekcdmaaakfaa.VL

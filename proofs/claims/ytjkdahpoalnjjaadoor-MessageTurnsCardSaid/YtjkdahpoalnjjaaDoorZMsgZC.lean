/- Layers 3, 20: a frame's bytes as one's own; a call that is lent one's own bytes. -/
import Derived.Test.YtjkdahpoalnjjaaDoorZCd
import Derived.Test.YtjkdahpoalnjjaaDoorZMsgZB
import Derived.Test.YtjkdahpoalnjjaaDoorZFa
import Derived.Test.YtjkdahpoalnjjaaDoorZCf
-- STEPWISE
-- WK
-- TAILN 4 9
set_option linter.unusedVariables false
set_option linter.unusedSimpArgs false
set_option maxRecDepth 10000
namespace Go.Proofs.YtjkdahpoalnjjaaDoor.VL
open Go Go.RowKit Go.Lib

theorem Shed.tupV {E : Ent} {r r' : AV} {x : Value} {H H' : List Box} (h : Shed E r H r' H') : Shed E (.tup [r, .v x]) H (.tup [r', .v x]) H' := fun w β v hI hs hr => by
  cases hr with
  | tup _ vs hl hr =>
    have h2 : vs.size = 2 := by simpa using hl.symm
    obtain ⟨β', g1, g2, g3⟩ := h w β vs[0] hI hs (hr 0 r _ rfl (Array.getElem?_eq_getElem (by omega)))
    refine ⟨β', g1, g2, .tup _ vs (by simpa using hl) fun i c y hc hy => ?_⟩
    rcases i with _ | _ | i
    · simp at hc; subst hc
      rw [Array.getElem?_eq_getElem (by omega)] at hy
      injection hy with hy
      subst hy
      exact g3
    · simp at hc; subst hc
      have := hr 1 _ y rfl hy
      cases this
      exact .v _
    · simp at hc
theorem Fin.ownT {E : Ent} {N : List Box} {i n : Nat} {bs : List UInt8} {x : Value} {K : AV → List Box → Prop} (hb : N[i]? = some ⟨bytesC bs, 0, 0, true⟩) (h : K (.tup [.sl E.H.length 0 0 n 1 false, .v x]) (E.H ++ [⟨bytesC bs, 0, 0, true⟩])) :
    Fin E (.tup [.sl (E.H.length + i) 0 0 n 1 false, .v x]) (E.H ++ N) K :=
  ⟨_, _, Shed.tupV (Shed.own (b := E.H.length + i) (bx := ⟨bytesC bs, 0, 0, true⟩) (by rw [List.getElem?_append_right (by omega)]; simpa using hb) rfl (by omega) (fun j c hj => bytesC_lt _ j c hj)), h⟩
abbrev OwnsE (bs : List UInt8) (H : List Box) : Out → List Box → Prop := fun o H' => o = .ret (.tup [.sl H.length 0 0 bs.length 1 false, vi 0]) ∧ H' = H ++ [⟨bytesC bs, 0, 0, true⟩]

set_option maxHeartbeats 1000000 in
theorem encode_own (f : Fr) (h : frRight f = true) (H : List Box) : ASpec Tryd.prog 37 [frV f] H (OwnsE (frB f) H) := by
  have hs := frRight_spec h
  have hr := fun H => right_spec f (by omega) (by omega) H
  unfold frB frIn textB
  obtain ⟨k, c, n, p⟩ := f
  dsimp only at hr hs ⊢
  have n1 := fun H => (num1_spec [66, 87, 1] (by simp) k H).froz
  have l1 := numB_length_le k
  have l2 := numB_length_le c.length
  have l3 := numB_length_le n
  have l4 := numB_length_le p.length
  have n2 := fun H => (text_spec ([66, 87, 1] ++ numB k) c (by simp; omega) (by omega) H).froz
  have n3 := fun H => (num1_spec ([66, 87, 1] ++ numB k ++ (numB c.length ++ c)) (by simp; omega) n H).froz
  have n4 := fun H => (text_spec ([66, 87, 1] ++ numB k ++ (numB c.length ++ c) ++ numB n) p (by simp; omega) (by omega) H).froz
  have n5 := fun H => seal_spec ([66, 87, 1] ++ numB k ++ (numB c.length ++ c) ++ numB n ++ (numB p.length ++ p)) (by simp; omega) H
  have n1 : ∀ H, ASpec Tryd.prog 42 [.lst 1 [[.v (.int .u8 66)], [.v (.int .u8 87)], [.v (.int .u8 1)]], .lst 1 [[vi k]]] H (Gives (vB ([66, 87, 1] ++ numB k)) H) := n1
  generalize hx1 : [66, 87, 1] ++ numB k = x1 at n1 n2 n3 n4 n5
  generalize hx2 : x1 ++ (numB c.length ++ c) = x2 at n2 n3 n4 n5
  generalize hx3 : x2 ++ numB n = x3 at n3 n4 n5
  generalize hx4 : x3 ++ (numB p.length ++ p) = x4 at n4 n5
  rw [show [66, 87, 1] ++ (numB k ++ ((numB c.length ++ c) ++ (numB n ++ (numB p.length ++ p)))) = x4 by rw [← hx4, ← hx3, ← hx2, ← hx1]; simp]
  refine ASpec.enter Tryd.func37 rfl (fun a w => Tryd.call37 a w) Tryd.ntmps37 Tryd.results37 fun base w β hI => ?_
  refine wk (wA h wT) (wA hr (wA n1 (wA n2 (wA n3 (wA n4 (wA n5 (wA ((TnM.mk (id := 4) (n := 9))) (wA DrM.mk wT)))))))) ?_
  refine wkEnd wT ?_
  exact Fin.ownT (i := 1) rfl ⟨rfl, rfl⟩
/-- A talk that may be said, and its frame. -/
theorem wrap_own (t : Tk) (ht : tkOk t = true) (c : List UInt8) (n : Int) (hr : frRight (frT t c n) = true) (H : List Box) : ASpec Tryd.prog 16 [.agg (tkC t), vs c, vi n] H (OwnsE (frB (frT t c n)) H) := by
  have h0 := fun H => tkEncode_spec t (tkOk_in ht) H
  unfold encT at h0
  rw [ht, if_pos rfl] at h0
  have h1 := fun H => encode_own (frT t c n) hr H
  generalize frB (frT t c n) = X at *
  unfold frT at h1
  try dsimp only at h1 h0
  generalize tB t = B at *
  obtain ⟨k, d, l⟩ := t
  refine ASpec.enter Tryd.func16 rfl (fun a w => Tryd.call16 a w) Tryd.ntmps16 Tryd.results16 fun base w β hI => ?_
  refine wk wT (wA h0 (wA h1 (wA ((TnM.mk (id := 4) (n := 9))) (wA DrM.mk wT)))) ?_
  refine wkEnd wT ?_
  exact Fin.ownT (i := 1) rfl ⟨rfl, rfl⟩

/-- Values that name no memory. -/
inductive MF : AV → Prop
  | v (x : Value) : MF (.v x)
  | emp : MF .emp
  | nil (sz : Nat) : MF (.lst sz [])
  | agg (cs : List AV) (h : ∀ (i : Nat) (c : AV), cs[i]? = some c → MF c) : MF (.agg cs)
  | tup (cs : List AV) (h : ∀ (i : Nat) (c : AV), cs[i]? = some c → MF c) : MF (.tup cs)
theorem Rep.mf {w w' : World} {H H' : List Box} {β β' : Pl} {c : AV} {x : Value} (h : Rep w H β c x) (hm : MF c) : Rep w' H' β' c x := by
  induction h with
  | v x => exact .v x
  | emp a => exact .emp a
  | lst0 sz a cap => exact .lst0 _ _ _
  | lst sz gs k s cap x hn hg hc _ _ =>
    cases hm with
    | nil => exact .lst0 _ _ _
  | agg cs vs hl _ ih =>
    cases hm with
    | agg _ hm => exact .agg cs vs hl fun i c x h1 h2 => ih i c x h1 h2 (hm i c h1)
  | tup cs vs hl _ ih =>
    cases hm with
    | tup _ hm => exact .tup cs vs hl fun i c x h1 h2 => ih i c x h1 h2 (hm i c h1)
  | _ => cases hm
/-- A call of what writes nothing that was there, by what it is handed alone. -/
theorem ASpec.alone {P : Program} {f : FuncId} {A A' : List AV} {H : List Box} {r : AV} (h : ASpec P f A' [] (Gives r [])) (hm : MF r) (hc : ∀ (base : Nat) (w : World) (β : Pl) (vs : Array Value), Inv base w H β → Reps w H β A vs → Reps w [] noP A' vs) : ASpec P f A H (Gives r H) := fun base w β vs hI hr => by
  have hgl : Glob w := fun g j v hg => by
    obtain ⟨h1, h2, h3⟩ := hI.bse.glob g j v hg
    have := hI.bse.le
    exact ⟨by omega, h2, h3⟩
  refine (h w.heap.size w noP vs (inv_nil w hgl) (hc base w β vs hI hr)).mono ?_
  rintro e w' ⟨out, H', β', ⟨rfl, rfl⟩, k2, k3, k4⟩
  have hw : Wor w w' := ⟨k4.os, k4.tape, k4.output, k4.size, fun k c e fr hk => by
    obtain ⟨c', fr', h1, h2, h3, _⟩ := k4.shape k c e fr hk
    have hks : k < w.heap.size := (Array.getElem?_eq_some_iff.1 hk).1
    exact ⟨c', by rw [h1, h3 hks], h2⟩, k4.other⟩
  obtain ⟨g1, g2⟩ := still hI hw fun k x hk => k4.keep k x hk (not_wr k x)
  refine ⟨.ret r, H, β, ⟨rfl, rfl⟩, ?_, g1, g2⟩
  cases e with
  | returned v => exact Rep.mf k2 hm
  | panicked c => exact k2.elim
  | outgrown => exact k2.elim
theorem chunk_pre (bs : List UInt8) (n : Nat) (h : n ≤ bs.length) : chunk 1 n (bytesC bs) = bytesG (bs.take n) := by
  induction bs generalizing n with
  | nil => obtain rfl : n = 0 := by simpa using h
           rfl
  | cons b r ih =>
    cases n with
    | zero => rfl
    | succ n => simp only [chunk, bytesC, List.map_cons, List.take_succ_cons, List.take_zero, List.drop_succ_cons, List.drop_zero]; exact congrArg _ (ih n (by simpa using h))
/-- One's own bytes, as bytes that are only read. -/
theorem rep_lend {base : Nat} {w : World} {H : List Box} {β : Pl} {b n ro : Nat} {bs : List UInt8} {gr full : Bool} {v : Value} (hI : Inv base w H β) (hb : H[b]? = some ⟨bytesC bs, ro, 0, gr⟩) (hn : n ≤ bs.length) (hr : Rep w H β (.sl b 0 0 n 1 full) v) : Rep w [] noP (vB (bs.take n)) v := by
  obtain ⟨h1, h2⟩ := freeze_inv (m := n) hI hb (by rw [bytesC_length]; exact hn)
  have h3 := rep_view (bx := ⟨bytesC bs, max ro n, 0, gr⟩) h1 (List.getElem?_set_self (List.getElem?_eq_some_iff.1 hb).1) rfl (by dsimp only; omega) (hr.stp h2)
  dsimp only at h3
  rw [List.drop_zero, chunk_pre bs n hn] at h3
  exact h3.move (n := 0) (fun b hb => by omega) (fun k x hw => absurd hw (not_wr k x)) (lt_bytes _)
/-- Open of one's own bytes, where nothing is handed back. -/
theorem open_lend (bs cl : List UInt8) (n : Nat) (hn : n ≤ bs.length) (hl : bs.length ≤ 1099511627776) (hz : (open20 (bs.take n) cl).1 = tkZ) {b ro : Nat} {gr full : Bool} {H : List Box} (hb : H[b]? = some ⟨bytesC bs, ro, 0, gr⟩) :
    ASpec Tryd.prog 12 [.sl b 0 0 n 1 full, vs cl] H (Gives (tkR3 (open20 (bs.take n) cl)) H) :=
  ASpec.alone (open20_spec (bs.take n) cl (by simp; omega) []) (by
    rw [tkR3, hz]
    exact .tup _ fun i c hc => by
      rcases i with _ | _ | _ | i
      · simp at hc; subst hc
        exact .agg _ fun i c hc => by
          rcases i with _ | _ | _ | i
          · simp at hc; subst hc; exact .v _
          · simp [tkZ] at hc; subst hc; exact .nil _
          · simp [tkZ] at hc; subst hc; exact .nil _
          · simp at hc
      · simp at hc; subst hc; exact .v _
      · simp at hc; subst hc; exact .v _
      · simp at hc) fun base w β vs hI hr => ⟨hr.1, fun i c x hc hx => by
      rcases i with _ | _ | i
      · simp at hc; subst hc
        exact rep_lend hI hb hn (hr.2 0 _ x rfl hx)
      · simp at hc; subst hc
        have := hr.2 1 _ x rfl hx
        cases this
        exact .v _
      · simp at hc⟩

end Go.Proofs.YtjkdahpoalnjjaaDoor.VL

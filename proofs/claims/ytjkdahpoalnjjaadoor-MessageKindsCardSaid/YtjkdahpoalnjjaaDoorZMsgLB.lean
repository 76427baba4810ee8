/- Layer 20: the fixed fact; the laws of decoding, of encoding, of there and back, of kinds. -/
import Derived.Test.YtjkdahpoalnjjaaDoorZCd
import Derived.Test.YtjkdahpoalnjjaaDoorZMsgLA
import Derived.Test.YtjkdahpoalnjjaaDoorZMsgV
import Derived.Test.YtjkdahpoalnjjaaDoorZMc
import Derived.Test.YtjkdahpoalnjjaaDoorZFa
-- STEPWISE
-- WK
set_option linter.unusedVariables false
set_option linter.unusedSimpArgs false
set_option maxRecDepth 10000
namespace Go.Proofs.YtjkdahpoalnjjaaDoor.VL
open Go Go.RowKit Go.Lib

theorem Rep.emp0 {w : World} {H : List Box} {β : Pl} {a g : AV} {x : Value} (h : Rep w H β (.agg [a, g, .emp]) x) : Rep w H β (.agg [a, g, .lst 5 []]) x := by
  cases h with
  | agg _ vs hl h =>
    refine .agg _ vs (by simpa using hl) fun i c y hc hy => ?_
    rcases i with _ | _ | _ | i
    · simp at hc; subst hc; exact h 0 _ y rfl hy
    · simp at hc; subst hc; exact h 1 _ y rfl hy
    · simp at hc; subst hc
      have h1 := h 2 _ y rfl hy
      cases h1 with
      | emp a => exact .lst0 _ _ _
    · simp at hc
theorem ASpec.tk0 {P : Program} {f : FuncId} {a g : AV} {post : List AV} {H : List Box} {K : Out → List Box → Prop} (h : ASpec P f (.agg [a, g, .lst 5 []] :: post) H K) : ASpec P f (.agg [a, g, .emp] :: post) H K :=
  h.sub fun w H β vs hr => ⟨hr.1, fun i c x hc hx => by
    cases i with
    | zero => simp at hc; subst hc; exact Rep.emp0 (hr.2 0 _ x rfl hx)
    | succ i => exact hr.2 (i + 1) c x hc hx⟩
def alT : Tk := ⟨1, [⟨1, 2, 3⟩], []⟩
theorem alT_ok : tkOk alT = true := by decide
theorem alT_B : tB alT = [1, 1, 2, 3] := by
  simp only [tB, alT, show knows 1 = true from rfl, show tells 1 = false from rfl, if_true, dgB, numsB, List.flatMap_cons, List.flatMap_nil, List.append_nil, List.length_cons, List.length_nil]
  have h1 := nb_lt128 (n := 1) (by omega)
  have h2 := nb_lt128 (n := 2) (by omega)
  have h3 := nb_lt128 (n := 3) (by omega)
  simp only [Int.natCast_one, Nat.zero_add] at h1 h2 h3 ⊢
  rw [show numB 1 = _ from h1, show numB 2 = _ from h2, show numB 3 = _ from h3]
  rfl
theorem frT_right {t : Tk} (h : tkOk t = true) {c : List UInt8} {n : Int} (hc0 : 1 ≤ c.length) (hc1 : c.length ≤ 30) (hn0 : 0 ≤ n) (hn1 : n < 8) : frRight (frT t c n) = true := by
  have hp := tkOk_parts h
  have hb := tB_le h
  unfold frRight frT
  dsimp only
  exact decide_eq_true ⟨hp.1.1, by omega, hc0, hc1, hn0, hn1, by omega⟩
theorem wrap_ok {t : Tk} (h : tkOk t = true) {c : List UInt8} {n : Int} (hr : frRight (frT t c n) = true) (H : List Box) : ASpec Tryd.prog 16 [.agg (tkC t), vs c, vi n] H (Gives (.tup [vB (frB (frT t c n)), vi 0]) H) := by
  have h1 := wrap_spec t (tkOk_in h) c (by have := frRight_spec hr; dsimp only [frT] at this; omega) n H
  unfold wrapT encV at h1
  rw [h, if_pos rfl, hr, if_pos rfl] at h1
  exact h1
theorem open20_frB {t : Tk} (h : tkOk t = true) {c : List UInt8} {n : Int} (hr : frRight (frT t c n) = true) : open20 (frB (frT t c n)) c = (t, n, 0) := by
  have h1 := frD_frB hr c
  rw [if_pos (show (frT t c n).c = c from rfl)] at h1
  have h2 : dec20 (frT t c n).k (frT t c n).p = (t, 0) := dec20_tB t h
  unfold open20
  simp only [h1, h2, ne_eq, not_true_eq_false, if_false]
  rfl
theorem open20_other {t : Tk} {c c' : List UInt8} {n : Int} (hr : frRight (frT t c n) = true) (hc : ¬ c = c') : open20 (frB (frT t c n)) c' = (tkZ, 0, 6) := by
  have h1 := frD_frB hr c'
  rw [if_neg (show ¬ (frT t c n).c = c' from hc)] at h1
  unfold open20
  rw [h1]
  rfl
theorem frB_le {f : Fr} (h : frRight f = true) : (frB f).length ≤ 1099511627776 := Nat.le_trans (frB_length f h) (by omega)
set_option maxHeartbeats 2000000 in
theorem alive20_spec (H : List Box) : ASpec Tryd.prog 9 [] H (Gives (vb true) H) := by
  have hr : frRight (frT alT [99] 4) = true := frT_right alT_ok (by simp) (by simp) (by omega) (by omega)
  have e1 : ∀ H, ASpec Tryd.prog 18 [.agg [vi 1, .lst 3 [[vi 1, vi 2, vi 3]], .emp]] H (Gives (.tup [vB [1, 1, 2, 3], vi 0]) H) := fun H => by
    have h := tkEncode_spec alT (tkOk_in alT_ok) H
    unfold encT at h
    rw [alT_ok, if_pos rfl, alT_B] at h
    exact ASpec.tk0 h
  have e2 : ∀ H, ASpec Tryd.prog 18 [.agg [vi 3, .lst 3 [[vi 1, vi 2, vi 3]], .emp]] H (Gives (.tup [vB [], vi 1]) H) := fun H => by
    have h := tkEncode_spec ⟨3, [⟨1, 2, 3⟩], []⟩ ⟨by decide, by decide, by intro d hd; cases hd⟩ H
    unfold encT at h
    rw [show tkOk ⟨3, [⟨1, 2, 3⟩], []⟩ = false from by decide, if_neg (by simp)] at h
    exact ASpec.tk0 h
  have w1 : ∀ H, ASpec Tryd.prog 16 [.agg [vi 1, .lst 3 [[vi 1, vi 2, vi 3]], .emp], vs [99], vi 4] H (Gives (.tup [vB (frB (frT alT [99] 4)), vi 0]) H) := fun H => ASpec.tk0 (wrap_ok alT_ok hr H)
  have o1 : ∀ H, ASpec Tryd.prog 12 [vB (frB (frT alT [99] 4)), vs [99]] H (Gives (.tup [.agg [vi 1, .lst 3 [[vi 1, vi 2, vi 3]], .lst 5 []], vi 4, vi 0]) H) := fun H => by
    have h := open20_spec (frB (frT alT [99] 4)) [99] (frB_le hr) H
    rw [open20_frB alT_ok hr] at h
    exact h
  generalize frB (frT alT [99] 4) = X at w1 o1
  clear hr
  refine ASpec.enter Tryd.func9 rfl (fun a w => Tryd.call9 a w) Tryd.ntmps9 Tryd.results9 fun base w β hI => ?_
  refine wk wT (wA e1 (wA e2 (wA w1 (wA o1 (wA DrM.mk wT))))) ?_
  refine wkEnd wT ?_
  exact Fin.cut (.v _) ⟨rfl, rfl⟩


theorem tkSame_self (t : Tk) : tkSame t t = true := by simp [tkSame]
theorem tkZ_in : TkIn tkZ := ⟨by decide, by decide, by intro d hd; cases hd⟩
theorem open20_in (b c : List UInt8) : TkIn (open20 b c).1 := by
  unfold open20
  split
  · exact tkZ_in
  · split
    · exact tkZ_in
    · exact dec20_in _ _

set_option maxHeartbeats 4000000 in
theorem messageDecodes_spec (k : Int) (bs cl : List UInt8) (hl : bs.length ≤ 9223372036854775807) (hcl : cl.length ≤ 9223372036854775807) (H : List Box) : ASpec Tryd.prog 3 [vi k, vB bs, vs cl] H (Gives (vb true) H) := by
  by_cases h1 : (4000 : Int) < (bs.length : Int)
  · refine ASpec.enter Tryd.func3 rfl (fun a w => Tryd.call3 a w) Tryd.ntmps3 Tryd.results3 fun base w β hI => ?_
    refine wk (wA h1 wT) (wA alive20_spec (wA DrM.mk wT)) ?_
    refine wkEnd wT ?_
    first | exact Fin.same ⟨rfl, rfl⟩ | exact Fin.cut (.v _) ⟨rfl, rfl⟩
  by_cases h2 : (300 : Int) < (cl.length : Int)
  · refine ASpec.enter Tryd.func3 rfl (fun a w => Tryd.call3 a w) Tryd.ntmps3 Tryd.results3 fun base w β hI => ?_
    refine wk (wA h1 (wA h2 wT)) (wA alive20_spec (wA DrM.mk wT)) ?_
    refine wkEnd wT ?_
    first | exact Fin.same ⟨rfl, rfl⟩ | exact Fin.cut (.v _) ⟨rfl, rfl⟩
  have d1 := fun H => decode20_spec k bs (by omega) H
  have d2 := fun H => refDecode20_spec' k bs (by omega) H
  have o1 := fun H => open20_spec bs cl (by omega) H
  have o2 := fun H => refOpen20_spec bs cl (by omega) H
  have s1 := fun H => refTkSame_spec _ _ (dec20_in k bs) (dec20_in k bs) H
  have s2 := fun H => refTkSame_spec _ _ (open20_in bs cl) (open20_in bs cl) H
  rw [tkSame_self] at s1 s2
  generalize dec20 k bs = x at d1 d2 s1
  generalize open20 bs cl = y at o1 o2 s2
  obtain ⟨⟨k1, dg1, dl1⟩, e1⟩ := x
  obtain ⟨⟨k2, dg2, dl2⟩, n2, e2⟩ := y
  try dsimp only at d1 d2 s1 o1 o2 s2
  refine ASpec.enter Tryd.func3 rfl (fun a w => Tryd.call3 a w) Tryd.ntmps3 Tryd.results3 fun base w β hI => ?_
  refine wk (wA h1 (wA h2 wT)) (wA alive20_spec (wA d1 (wA d2 (wA o1 (wA o2 (wA s1 (wA s2 (wA DrM.mk wT)))))))) ?_
  refine wkEnd wT ?_
  first | exact Fin.same ⟨rfl, rfl⟩ | exact Fin.cut (.v _) ⟨rfl, rfl⟩

set_option maxHeartbeats 4000000 in
theorem messageOnce_spec (k : Int) (bs : List UInt8) (hl : bs.length ≤ 9223372036854775807) (H : List Box) : ASpec Tryd.prog 5 [vi k, vB bs] H (Gives (vb true) H) := by
  by_cases h1 : (4000 : Int) < (bs.length : Int)
  · refine ASpec.enter Tryd.func5 rfl (fun a w => Tryd.call5 a w) Tryd.ntmps5 Tryd.results5 fun base w β hI => ?_
    refine wk (wA h1 wT) (wA alive20_spec (wA DrM.mk wT)) ?_
    refine wkEnd wT ?_
    first | exact Fin.same ⟨rfl, rfl⟩ | exact Fin.cut (.v _) ⟨rfl, rfl⟩
  have d1 := fun H => decode20_spec k bs (by omega) H
  by_cases he : (dec20 k bs).2 = 0
  · obtain ⟨ho1, ho2, ho3⟩ := dec20_once he
    have c1 := fun H => tkEncode_spec _ (tkOk_in ho1) H
    have r1 := fun H => tkRight_spec _ (tkOk_in ho1) H
    unfold encT at c1
    rw [ho1, if_pos rfl, ho3] at c1
    rw [ho1] at r1
    have q := fun H => same_spec bs bs (by omega) (by omega) H
    simp only [decide_true] at q
    clear ho1 ho3
    generalize dec20 k bs = x at *
    obtain ⟨⟨k1, dg1, dl1⟩, e1⟩ := x
    try dsimp only at he ho2 d1 c1 r1
    subst he; subst ho2
    refine ASpec.enter Tryd.func5 rfl (fun a w => Tryd.call5 a w) Tryd.ntmps5 Tryd.results5 fun base w β hI => ?_
    refine wk (wA h1 wT) (wA alive20_spec (wA d1 (wA c1 (wA r1 (wA q (wA DrM.mk wT)))))) ?_
    refine wkEnd wT ?_
    first | exact Fin.same ⟨rfl, rfl⟩ | exact Fin.cut (.v _) ⟨rfl, rfl⟩
  · rw [dec20_z he] at d1
    generalize (dec20 k bs).2 = e at he d1
    unfold tkZ at d1
    try dsimp only at d1
    refine ASpec.enter Tryd.func5 rfl (fun a w => Tryd.call5 a w) Tryd.ntmps5 Tryd.results5 fun base w β hI => ?_
    refine wk (wA h1 (wA he wT)) (wA alive20_spec (wA d1 (wA DrM.mk wT))) ?_
    refine wkEnd wT ?_
    first | exact Fin.same ⟨rfl, rfl⟩ | exact Fin.cut (.v _) ⟨rfl, rfl⟩

set_option maxHeartbeats 4000000 in
theorem messageKinds_spec (t : Tk) (ht : TkIn t) (kd : Int) (hk0 : 0 ≤ kd) (hk1 : kd ≤ 255) (H : List Box) : ASpec Tryd.prog 6 [.agg (tkC t), .v (.int .u8 kd)] H (Gives (vb true) H) := by
  have r0 := fun H => refTkRight_spec t ht H
  cases hok : tkOk t with
  | false =>
    rw [hok] at r0
    obtain ⟨k, d, l⟩ := t
    try dsimp only at r0
    refine ASpec.enter Tryd.func6 rfl (fun a w => Tryd.call6 a w) Tryd.ntmps6 Tryd.results6 fun base w β hI => ?_
    refine wk wT (wA alive20_spec (wA r0 (wA DrM.mk wT))) ?_
    refine wkEnd wT ?_
    first | exact Fin.same ⟨rfl, rfl⟩ | exact Fin.cut (.v _) ⟨rfl, rfl⟩
  | true =>
    rw [hok] at r0
    have hr : frRight (frT t [119, 101, 115, 116] 3) = true := frT_right hok (by simp) (by simp) (by omega) (by omega)
    have c1 := fun H => tkEncode_spec t ht H
    unfold encT at c1
    rw [hok, if_pos rfl] at c1
    have w1 := fun H => wrap_ok hok hr H
    have o1 := fun H => open20_spec (frB (frT t [119, 101, 115, 116] 3)) [101, 97, 115, 116] (frB_le hr) H
    rw [open20_other hr (by decide)] at o1
    unfold tkZ at o1
    try dsimp only at o1
    have hm : 0 ≤ kd % 7 ∧ kd % 7 < 7 := by omega
    have d1 := fun H => decode20_spec (1 + kd % 7) (tB t) (Nat.le_trans (tB_le hok) (by omega)) H
    generalize frB (frT t [119, 101, 115, 116] 3) = X at w1 o1
    by_cases he : (dec20 (1 + kd % 7) (tB t)).2 = 0
    · obtain ⟨ho1, ho2, ho3⟩ := dec20_once he
      have r1 := fun H => tkRight_spec _ (tkOk_in ho1) H
      rw [ho1] at r1
      clear ho1 ho3
      generalize dec20 (1 + kd % 7) (tB t) = x at *
      obtain ⟨⟨k1, dg1, dl1⟩, e1⟩ := x
      try dsimp only at he ho2 d1 r1
      subst he; subst ho2
      generalize tB t = B at *
      clear hok hr
      obtain ⟨k, d, l⟩ := t
      try dsimp only at r0 c1 w1
      refine ASpec.enter Tryd.func6 rfl (fun a w => Tryd.call6 a w) Tryd.ntmps6 Tryd.results6 fun base w β hI => ?_
      refine wk wT (wA alive20_spec (wA r0 (wA c1 (wA d1 (wA w1 (wA o1 (wA r1 (wA DrM.mk wT)))))))) ?_
      refine wkEnd wT ?_
      first | exact Fin.same ⟨rfl, rfl⟩ | exact Fin.cut (.v _) ⟨rfl, rfl⟩
    · rw [dec20_z he] at d1
      generalize (dec20 (1 + kd % 7) (tB t)).2 = e at he d1
      unfold tkZ at d1
      try dsimp only at d1
      generalize tB t = B at *
      clear hok hr
      obtain ⟨k, d, l⟩ := t
      try dsimp only at r0 c1 w1
      refine ASpec.enter Tryd.func6 rfl (fun a w => Tryd.call6 a w) Tryd.ntmps6 Tryd.results6 fun base w β hI => ?_
      refine wk (wA he wT) (wA alive20_spec (wA r0 (wA c1 (wA d1 (wA w1 (wA o1 (wA DrM.mk wT))))))) ?_
      refine wkEnd wT ?_
      first | exact Fin.same ⟨rfl, rfl⟩ | exact Fin.cut (.v _) ⟨rfl, rfl⟩

set_option maxHeartbeats 4000000 in
theorem messageBack_spec (t : Tk) (ht : TkIn t) (cl : List UInt8) (hcl : cl.length ≤ 9223372036854775807) (fr : Int) (hk0 : 0 ≤ fr) (hk1 : fr ≤ 255) (H : List Box) : ASpec Tryd.prog 4 [.agg (tkC t), vs cl, .v (.int .u8 fr)] H (Gives (vb true) H) := by
  have r0 := fun H => refTkRight_spec t ht H
  cases hok : tkOk t with
  | false =>
    rw [hok] at r0
    obtain ⟨k, d, l⟩ := t
    try dsimp only at r0
    refine ASpec.enter Tryd.func4 rfl (fun a w => Tryd.call4 a w) Tryd.ntmps4 Tryd.results4 fun base w β hI => ?_
    refine wk wT (wA alive20_spec (wA r0 (wA DrM.mk wT))) ?_
    refine wkEnd wT ?_
    first | exact Fin.same ⟨rfl, rfl⟩ | exact Fin.cut (.v _) ⟨rfl, rfl⟩
  | true =>
    rw [hok] at r0
    by_cases h1 : (cl.length : Int) < 1
    · clear hok
      obtain ⟨k, d, l⟩ := t
      try dsimp only at r0
      refine ASpec.enter Tryd.func4 rfl (fun a w => Tryd.call4 a w) Tryd.ntmps4 Tryd.results4 fun base w β hI => ?_
      refine wk (wA h1 wT) (wA alive20_spec (wA r0 (wA DrM.mk wT))) ?_
      refine wkEnd wT ?_
      first | exact Fin.same ⟨rfl, rfl⟩ | exact Fin.cut (.v _) ⟨rfl, rfl⟩
    by_cases h2 : (30 : Int) < (cl.length : Int)
    · clear hok
      obtain ⟨k, d, l⟩ := t
      try dsimp only at r0
      refine ASpec.enter Tryd.func4 rfl (fun a w => Tryd.call4 a w) Tryd.ntmps4 Tryd.results4 fun base w β hI => ?_
      refine wk (wA h1 (wA h2 wT)) (wA alive20_spec (wA r0 (wA DrM.mk wT))) ?_
      refine wkEnd wT ?_
      first | exact Fin.same ⟨rfl, rfl⟩ | exact Fin.cut (.v _) ⟨rfl, rfl⟩
    have hm : 0 ≤ fr % 8 ∧ fr % 8 < 8 := by omega
    have hr : frRight (frT t cl (fr % 8)) = true := frT_right hok (by omega) (by omega) hm.1 hm.2
    have c1 := fun H => tkEncode_spec t ht H
    unfold encT at c1
    rw [hok, if_pos rfl] at c1
    have w1 := fun H => wrap_ok hok hr H
    have o1 := fun H => open20_spec (frB (frT t cl (fr % 8))) cl (frB_le hr) H
    rw [open20_frB hok hr] at o1
    have f1 := fun H => refDecode_spec (frB (frT t cl (fr % 8))) cl (frB_le hr) H
    rw [frD_frB hr, if_pos (show (frT t cl (fr % 8)).c = cl from rfl)] at f1
    unfold frDV frT at f1
    have s1 := fun H => refTkSame_spec t t ht ht H
    rw [tkSame_self] at s1
    have q := fun H => same_spec (tB t) (tB t) (Nat.le_trans (tB_le hok) (by omega)) (Nat.le_trans (tB_le hok) (by omega)) H
    simp only [decide_true] at q
    try dsimp only at f1
    clear hr
    unfold frT at w1 o1
    generalize frB ⟨t.k, cl, fr % 8, tB t⟩ = X at w1 o1 f1
    generalize tB t = B at *
    clear hok
    obtain ⟨k, d, l⟩ := t
    try dsimp only at r0 c1 w1 o1 f1 s1
    refine ASpec.enter Tryd.func4 rfl (fun a w => Tryd.call4 a w) Tryd.ntmps4 Tryd.results4 fun base w β hI => ?_
    refine wk (wA h1 (wA h2 wT)) (wA alive20_spec (wA r0 (wA c1 (wA w1 (wA o1 (wA f1 (wA s1 (wA q (wA DrM.mk wT))))))))) ?_
    refine wkEnd wT ?_
    first | exact Fin.same ⟨rfl, rfl⟩ | exact Fin.cut (.v _) ⟨rfl, rfl⟩

end Go.Proofs.YtjkdahpoalnjjaaDoor.VL

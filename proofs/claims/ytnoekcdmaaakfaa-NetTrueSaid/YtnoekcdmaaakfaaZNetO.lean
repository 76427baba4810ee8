/- Layer 25: the law's fixed fact. -/
import Derived.Test.YtnoekcdmaaakfaaZNetN
-- STEPWISE
-- WK
set_option linter.unusedVariables false
set_option linter.unusedSimpArgs false
set_option maxRecDepth 10000
namespace Go.Proofs.Ytnoekcdmaaakfaa.VL
open Go Go.RowKit Go.Lib

def exM1 : Ml := ⟨1, 2, [97]⟩
def exM2 : Ml := ⟨2, 3, [98]⟩
def exN (c : List Ct) : Nt := ⟨[exM1, exM2], c⟩
theorem exNL (c : List Ct) (h : c.length ≤ 1) : NtL (exN c) := ⟨by simp [exN], by simp [exN]; omega, by intro m hm; simp [exN, exM1, exM2] at hm; rcases hm with rfl | rfl <;> simp⟩
theorem exSend : sendN ⟨[], []⟩ [exM1, exM2] = (exN [], 0, 0) := by decide +kernel
theorem exDel : delivN (exN []) 1 = (⟨[exM1], []⟩, exM2, 0) := by decide +kernel
theorem exWay : wayN (exN []) 2 1 false = 0 := by decide +kernel
theorem exCut : cutC 2 1 = ⟨1, 2⟩ ∧ cutC 1 2 = ⟨1, 2⟩ := by decide +kernel
theorem exDel2 : delivN (exN [⟨1, 2⟩]) 0 = (⟨[exM2], [⟨1, 2⟩]⟩, mlZ, 6) := by decide +kernel
theorem exWay2 : wayN (exN [⟨1, 2⟩]) 1 2 true = 0 := by decide +kernel
theorem exBlk : blk (exN []) 1 2 = false := by decide +kernel
theorem exOk : ntOk (exN []) = true := by decide +kernel
theorem rep_nt0 {w : World} {H : List Box} {β : Pl} {v : Value} (h : Rep w H β (.agg [.emp, .emp]) v) : Rep w H β (ntV ⟨[], []⟩) v := by
  cases h with
  | agg _ vs hl h =>
    refine .agg _ _ hl fun i c x hc hx => ?_
    rcases i with _ | _ | i
    · simp at hc; subst hc
      have := h 0 _ x rfl hx
      cases this with
      | emp a => exact .lst0 _ _ _
    · simp at hc; subst hc
      have := h 1 _ x rfl hx
      cases this with
      | emp a => exact .lst0 _ _ _
    · simp at hc
theorem ASpec.weakA {P : Program} {f : FuncId} {a a' : AV} {rest : List AV} {H : List Box} {K : Out → List Box → Prop} (hw : ∀ (w : World) (β : Pl) (x : Value), Rep w H β a x → Rep w H β a' x) (h : ASpec P f (a' :: rest) H K) : ASpec P f (a :: rest) H K :=
  fun base w β vs hI hr => h base w β vs hI ⟨by simpa using hr.1, fun i c x hi hx => by
    rcases i with _ | i
    · simp at hi; subst hi; exact hw _ _ _ (hr.2 0 a x rfl hx)
    · exact hr.2 (i + 1) c x (by simpa using hi) hx⟩

set_option maxHeartbeats 8000000 in
theorem alive25_spec (H : List Box) : ASpec Try.prog 7 [] H (Gives (vb true) H) := by
  have s1 : ∀ H, ASpec Try.prog 9 [.agg [.emp, .emp], .lst 3 [[vi 1, vi 2, .lst 1 [[.v (.int .u8 97)]]], [vi 2, vi 3, .lst 1 [[.v (.int .u8 98)]]]]] H (Gives (.tup [ntV (exN []), vi 0, vi 0]) H) := fun H => by
    have h := send_spec ⟨[], []⟩ ⟨by simp, by simp, by simp⟩ [exM1, exM2] (by simp) H
    rw [exSend] at h
    exact ASpec.weakA (fun w β x hx => rep_nt0 hx) h
  have s2 := fun H => deliver_spec (exN []) (exNL [] (by simp)) 1 H
  have s3 : ∀ H, ASpec Try.prog 21 [ntV (exN []), vi 2, vi 1] H (Gives (.tup [ntV (exN [⟨1, 2⟩]), vi 0]) H) := fun H => by
    have h := part1_spec (exN []).fl (exNL [] (by simp)) 2 1 exWay H
    rw [exCut.1] at h
    exact h
  have s4 := fun H => deliver_spec (exN [⟨1, 2⟩]) (exNL [⟨1, 2⟩] (by simp)) 0 H
  have s5 : ∀ H, ASpec Try.prog 22 [ntV (exN [⟨1, 2⟩]), vi 1, vi 2] H (Gives (.tup [ntV (exN []), vi 0]) H) := fun H => by
    have h := heal1_spec (exN []).fl 1 2 (by rw [exCut.2]; exact exNL [⟨1, 2⟩] (by simp)) (by rw [exCut.2]; exact exWay2) H
    rw [exCut.2] at h
    exact h
  have s6 := fun H => blocked_spec (exN []) 1 2 (by simp [exN]) H
  have s7 := fun H => netRight_spec (exN []) (by simp [exN]) (by simp [exN]) H
  rw [exDel] at s2
  rw [exDel2] at s4
  rw [exBlk] at s6
  rw [exOk] at s7
  have e1 : ([exM1] : List Ml).length = 1 := rfl
  have e2 : ([exM2] : List Ml).length = 1 := rfl
  have e3 : exM2.d = [98] := rfl
  generalize exN [] = N0 at *
  generalize exN [⟨1, 2⟩] = Nc at *
  generalize ([exM1] : List Ml) = l1 at *
  generalize ([exM2] : List Ml) = l2 at *
  generalize exM2 = m2 at *
  obtain ⟨f0, c0⟩ := N0
  obtain ⟨fc, cc⟩ := Nc
  obtain ⟨mf, mt, md⟩ := m2
  dsimp only at *
  subst e3
  have s2' : ∀ H, ASpec Try.prog 10 [.agg [.lst 3 (mlG f0), .lst 2 (ctG c0)], vi 1] H (Gives (.tup [.agg [.lst 3 (mlG l1), .lst 2 []], .agg [vi mf, vi mt, .lst 1 [[.v (.int .u8 98)]]], vi 0]) H) := s2
  have s4' : ∀ H, ASpec Try.prog 10 [.agg [.lst 3 (mlG fc), .lst 2 (ctG cc)], vi 0] H (Gives (.tup [.agg [.lst 3 (mlG l2), .lst 2 [[vi 1, vi 2]]], .agg [vi 0, vi 0, .lst 1 []], vi 6]) H) := s4
  have hbn : bytesOf [[AV.v (.int .u8 98)]] = some [98] := rfl
  have hst : ((⟨([98] : List UInt8).toArray⟩ : ByteArray) = ⟨#[98]⟩) = True := eq_true rfl
  refine ASpec.enter Try.func7 rfl (fun a w => Try.call7 a w) Try.ntmps7 Try.results7 fun base w β hI => ?_
  refine wk (wA e1 (wA e2 (wA hbn (wA hst wT)))) (wA s1 (wA s2' (wA s3 (wA s4' (wA s5 (wA s6 (wA s7 (wA DrM.mk wT)))))))) ?_
  refine wkEnd wT ?_
  exact Fin.cut (.v _) ⟨rfl, rfl⟩

end Go.Proofs.Ytnoekcdmaaakfaa.VL

/- Layer 17: the law's fixed fact. -/
import Derived.Test.YtkkhbmpcpilmfaaZCd
import Derived.Test.YtkkhbmpcpilmfaaZPktJ
import Derived.Test.YtkkhbmpcpilmfaaZPe
-- STEPWISE
-- WK
set_option linter.unusedVariables false
set_option linter.unusedSimpArgs false
set_option maxRecDepth 100000
namespace Go.Proofs.Ytkkhbmpcpilmfaa.VL
open Go Go.RowKit Go.Lib

theorem ASpec.weak0 {P : Program} {f : FuncId} {a a' : AV} {rest : List AV} {H : List Box} {K : Out → List Box → Prop} (hw : ∀ (w : World) (H : List Box) (β : Pl) (x : Value), Rep w H β a x → Rep w H β a' x) (h : ASpec P f (a' :: rest) H K) : ASpec P f (a :: rest) H K :=
  fun base w β vs hI hr => h base w β vs hI ⟨by simpa using hr.1, fun i c x hi hx => by
    rcases i with _ | i
    · simp at hi; subst hi; exact hw _ _ _ _ (hr.2 0 a x rfl hx)
    · exact hr.2 (i + 1) c x (by simpa using hi) hx⟩
theorem rep_pk0 {w : World} {H : List Box} {β : Pl} {a b c d : AV} {x : Value} (h : Rep w H β (.agg [a, b, c, d, .emp, .emp]) x) : Rep w H β (.agg [a, b, c, d, .lst 5 [], .lst 5 []]) x := by
  cases h with
  | agg cs vs hl hh =>
    refine .agg _ vs (by simpa using hl) fun i e y he hy => ?_
    rcases i with _ | _ | _ | _ | _ | _ | i
    · exact hh 0 _ _ he hy
    · exact hh 1 _ _ he hy
    · exact hh 2 _ _ he hy
    · exact hh 3 _ _ he hy
    · simp at he
      subst he
      have := hh 4 .emp y rfl hy
      cases this with
      | emp a => exact .lst0 _ _ _
    · simp at he
      subst he
      have := hh 5 .emp y rfl hy
      cases this with
      | emp a => exact .lst0 _ _ _
    · simp at he

def exP : Pk := ⟨7, 0, [⟨[1, 97, 0], 1, 1⟩], [⟨[1, 65, 0], 1, 1, 5, [97, 98, 99, 100]⟩], [], []⟩
theorem exL : PkL exP := ⟨by simp [exP], by intro r hr; simp [exP] at hr; subst hr; simp, by intro r hr; simp [exP] at hr, by intro r hr; simp [exP] at hr, by simp [exP], by simp [exP], by simp [exP], by simp [exP]⟩
def exB : List UInt8 := [0, 7, 0, 0, 0, 1, 0, 1, 0, 0, 0, 0, 1, 97, 0, 0, 1, 0, 1, 192, 12, 0, 1, 0, 1, 0, 0, 0, 5, 0, 4, 97, 98, 99, 100]
def exC : List UInt8 := [0, 7, 2, 0, 0, 1, 0, 0, 0, 0, 0, 0, 1, 97, 0, 0, 1, 0, 1]
theorem exB_eq : bldP exP 512 = (exB, 0) := by decide +kernel
theorem exC_eq : bldP exP 20 = (exC, 0) := by decide +kernel
theorem exE_eq : psE exB = 0 := by decide +kernel
theorem exA_eq : (psR exB).a = [⟨[1, 97, 0], 1, 1, 5, [97, 98, 99, 100]⟩] := by decide +kernel
theorem exN_eq : nmP [192, 0] 0 = ([], 0, 15) := by decide +kernel

set_option maxHeartbeats 8000000 in
theorem alive17_spec (H : List Box) : ASpec Try.prog 8 [] H (Gives (vb true) H) := by
  have hb : ∀ H, ASpec Try.prog 10 [.agg [vi 7, vi 0, .lst 3 [[vs [1, 97, 0], vi 1, vi 1]], .lst 5 [[vs [1, 65, 0], vi 1, vi 1, vi 5, vs [97, 98, 99, 100]]], .emp, .emp], vi 512] H (Gives (.tup [vB exB, vi 0]) H) := fun H => by
    have h := pktBuild_spec exP exL 512 H
    rw [exB_eq] at h
    exact ASpec.weak0 (fun w H β x hx => rep_pk0 hx) h
  have hc : ∀ H, ASpec Try.prog 10 [.agg [vi 7, vi 0, .lst 3 [[vs [1, 97, 0], vi 1, vi 1]], .lst 5 [[vs [1, 65, 0], vi 1, vi 1, vi 5, vs [97, 98, 99, 100]]], .emp, .emp], vi 20] H (Gives (.tup [vB exC, vi 0]) H) := fun H => by
    have h := pktBuild_spec exP exL 20 H
    rw [exC_eq] at h
    exact ASpec.weak0 (fun w H β x hx => rep_pk0 hx) h
  have hpq : ∀ H, ASpec Try.prog 12 [vB exB] H (Gives (.tup [.agg [vi (hdV exB 0), vi (hdV exB 1), .lst 3 (qnG (psQ exB).1), .lst 5 (rrG [⟨[1, 97, 0], 1, 1, 5, [97, 98, 99, 100]⟩]), .lst 5 (rrG (psU exB).1), .lst 5 (rrG (psM exB).1)], vi 0]) H) := fun H => by
    have h := pktParse_spec exB (by decide) H
    have e : psV exB = .tup [.agg [vi (hdV exB 0), vi (hdV exB 1), .lst 3 (qnG (psQ exB).1), .lst 5 (rrG (psR exB).a), .lst 5 (rrG (psU exB).1), .lst 5 (rrG (psM exB).1)], vi 0] := by rw [psV, exE_eq, if_pos rfl]; rfl
    rw [e, exA_eq] at h
    exact h
  have hnm : ∀ H, ASpec Try.prog 17 [.lst 1 [[.v (.int .u8 192)], [.v (.int .u8 0)]], vi 0] H (Gives (.tup [vs [], vi 0, vi 15]) H) := fun H => by
    have h := pktName_spec [192, 0] (by simp) 0 H
    rw [exN_eq] at h
    exact h
  have hlB : exB.length = 35 := by decide
  have hlC : exC.length = 19 := by decide
  have hC2 : exC[2]? = some 2 := by decide
  generalize hdV exB 0 = z0 at *
  generalize hdV exB 1 = z1 at *
  generalize (psQ exB).1 = z2 at *
  generalize (psU exB).1 = z3 at *
  generalize (psM exB).1 = z4 at *
  generalize exB = B at *
  generalize exC = C at *
  refine ASpec.enter Try.func8 rfl (fun a w => Try.call8 a w) Try.ntmps8 Try.results8 fun base w β hI => ?_
  refine wkE (wA hlB (wA hlC (wA hC2 wT))) (wA hb (wA hc (wA hpq (wA hnm wT)))) ?_
  refine wkEnd wT ?_
  exact Fin.cut (.v _) ⟨rfl, rfl⟩

end Go.Proofs.Ytkkhbmpcpilmfaa.VL

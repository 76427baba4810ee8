/- Layer 15: a service's value, and a value's service, as the program lays and reads them. -/
import Derived.Test.YtnoekcdmaaakfaaDoorZSvcC
import Derived.Test.YtnoekcdmaaakfaaDoorZTakeM
-- STEPWISE
-- WK
set_option linter.unusedVariables false
set_option linter.unusedSimpArgs false
set_option maxRecDepth 10000
namespace Go.Proofs.YtnoekcdmaaakfaaDoor.VL
open Go Go.RowKit Go.Lib

def svV (x : Sv × Int) : AV := .tup [.agg (svC x.1), vi x.2]
def enV (x : List UInt8 × Int) : AV := .tup [vs x.1, vi x.2]
theorem ltS6 {n : Nat} (a b c d e f g : Value) : Lt n (.tup [.agg [.v a, .v b, .v c, .v d, .v e, .v f], .v g]) := .tup _ fun i x hi => by
  rcases i with _ | _ | i <;> simp at hi <;> subst hi
  · exact .agg _ fun i x hi => by rcases i with _ | _ | _ | _ | _ | _ | i <;> simp at hi <;> subst hi <;> exact .v _
  · exact .v _
theorem numB_le9 (n : Int) : (numB n).length ≤ 9 := numB_length_le n

set_option maxHeartbeats 2000000 in
theorem encode_spec (s : Sv) (hn : s.n.length ≤ 9223372036854775807) (hp : s.p.length ≤ 9223372036854775807) (H : List Box) : ASpec Tryd.prog 7 [.agg (svC s)] H (Gives (enV (encS s)) H) := by
  have h0 := fun H => right_spec s hn hp H
  unfold encS
  cases ho : svOk s with
  | false =>
    rw [ho] at h0
    rw [if_neg (by simp)]
    refine ASpec.enter Tryd.func7 rfl (fun a w => Tryd.call7 a w) Tryd.ntmps7 Tryd.results7 fun base w β hI => ?_
    refine wk wT (wA h0 (wA DrM.mk wT)) ?_
    refine wkEnd wT ?_
    exact Fin.cut (ltVV _ _) ⟨rfl, rfl⟩
  | true =>
    rw [ho] at h0
    rw [if_pos rfl]
    have hw := ho
    unfold svOk at hw
    simp only [Bool.and_eq_true, decide_eq_true_eq] at hw
    obtain ⟨hw1, hw2, _⟩ := hw
    obtain ⟨_, n20⟩ := wordOk_len hw1
    obtain ⟨_, p20⟩ := wordOk_len hw2
    obtain ⟨n, p, o, i, w, l⟩ := s
    dsimp only at n20 p20
    have l1 := numB_le9 n.length
    have l2 := numB_le9 p.length
    have h1 := fun H => (text_spec [] n (by simp) (by omega) H).froz
    rw [List.nil_append] at h1
    have hl1 : (numB n.length ++ n).length ≤ 29 := by rw [List.length_append]; omega
    have h2 := fun H => (text_spec (numB n.length ++ n) p (by omega) (by omega) H).froz
    have hl2 : (numB n.length ++ n ++ (numB p.length ++ p)).length ≤ 58 := by rw [List.length_append, show (numB p.length ++ p).length = (numB p.length).length + p.length from List.length_append]; omega
    have h3 := fun b H => (num_spec (numB n.length ++ n ++ (numB p.length ++ p)) (by omega) [o, i, w, b] (by simp) H).froz
    have hi : ∀ b, intsG [o, i, w, b] = [[vi o], [vi i], [vi w], [vi b]] := fun b => rfl
    simp only [vI, hi] at h3
    have eb : encB ⟨n, p, o, i, w, l⟩ = numB n.length ++ n ++ (numB p.length ++ p) ++ numsB [o, i, w, b01 l] := rfl
    rw [eb]
    generalize hA : numB n.length ++ n = A at *
    generalize hB : A ++ (numB p.length ++ p) = B at *
    have hm : ∀ b, (B ++ numsB [o, i, w, b]).length ≤ 94 := fun b => by
      have g : (numsB [o, i, w, b]).length ≤ 36 := by
        have a1 := numB_le9 o
        have a2 := numB_le9 i
        have a3 := numB_le9 w
        have a4 := numB_le9 b
        simp only [numsB, List.flatMap_cons, List.flatMap_nil, List.length_append, List.length_nil]
        omega
      rw [List.length_append]
      omega
    cases l with
    | false =>
      have hm' := hm 0
      rw [show b01 false = 0 from rfl]
      have h4 := h3 0
      generalize hC : B ++ numsB [o, i, w, 0] = C at *
      refine ASpec.enter Tryd.func7 rfl (fun a w => Tryd.call7 a w) Tryd.ntmps7 Tryd.results7 fun base w β hI => ?_
      refine wkE wT (wA h0 (wA h1 (wA h2 (wA h4 (wA DrM.mk wT))))) ?_
      refine wkEnd wT ?_
      exact Fin.cut (ltVV _ _) ⟨rfl, rfl⟩
    | true =>
      have hm' := hm 1
      rw [show b01 true = 1 from rfl]
      have h4 := h3 1
      generalize hC : B ++ numsB [o, i, w, 1] = C at *
      refine ASpec.enter Tryd.func7 rfl (fun a w => Tryd.call7 a w) Tryd.ntmps7 Tryd.results7 fun base w β hI => ?_
      refine wkE wT (wA h0 (wA h1 (wA h2 (wA h4 (wA DrM.mk wT))))) ?_
      refine wkEnd wT ?_
      exact Fin.cut (ltVV _ _) ⟨rfl, rfl⟩

end Go.Proofs.YtnoekcdmaaakfaaDoor.VL

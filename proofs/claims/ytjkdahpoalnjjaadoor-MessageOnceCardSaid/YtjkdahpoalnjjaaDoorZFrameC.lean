/- Layer 3: frames taken from bytes, as the reference has it; facts for the laws. -/
import Derived.Test.YtjkdahpoalnjjaaDoorZCd
import Derived.Test.YtjkdahpoalnjjaaDoorZFrameB
-- STEPWISE
-- WK
set_option linter.unusedVariables false
set_option linter.unusedSimpArgs false
set_option maxRecDepth 10000
namespace Go.Proofs.YtjkdahpoalnjjaaDoor.VL
open Go Go.RowKit Go.Lib

set_option maxHeartbeats 4000000 in
theorem refDecode_spec (bs cl : List UInt8) (hl : bs.length ≤ 1099511627776) (H : List Box) : ASpec Tryd.prog 17 [vB bs, vs cl] H (Gives (frDV (frD bs cl)) H) := by
  have ho := fun H => refOpen_spec bs hl H
  have hol := opn_facts bs
  unfold frD
  generalize opn bs = x at ho hol ⊢
  obtain ⟨b, e⟩ := x
  dsimp only at ho hol ⊢
  by_cases he : e = 0
  · subst he
    rw [if_neg (by simp)]
    unfold frD1
    by_cases h3l : (b.length : Int) < 3
    · have h0 : ¬ b.take 3 = [66, 87, 1] := by
        intro h
        have := congrArg List.length h
        simp only [List.length_take, List.length_cons, List.length_nil] at this
        omega
      rw [if_neg h0]
      refine ASpec.enter Tryd.func17 rfl (fun a w => Tryd.call17 a w) Tryd.ntmps17 Tryd.results17 fun base w β hI => ?_
      try unfold opnV at *
      try dsimp only at *
      refine wk (wA h3l wT) (wA ho (wA DrM.mk wT)) ?_
      refine wkEnd wT ?_
      exact cut_frame0 ⟨rfl, rfl⟩
    by_cases h0 : b.take 3 = [66, 87, 1]
    · rw [if_pos h0]
      have h0' := eq_true h0
      have hbl : (b.drop 3).length ≤ b.length := by simp
      generalize hd : b.drop 3 = b1 at hbl ⊢
      have n1 := fun H => refTake_spec b1 (by omega) H
      have f1 : (tk b1).2.1.length ≤ b1.length ∧ (tk b1).1 ≤ 4611686018427387904 ∧ 0 ≤ (tk b1).2.2 ∧ (tk b1).2.2 ≤ 3 := tkGo_facts 9 0 0 b1
      generalize tk b1 = x1 at n1 f1 ⊢
      obtain ⟨k, b2, e1⟩ := x1
      dsimp only at n1 f1 ⊢
      by_cases h1 : e1 = 0
      · subst h1
        rw [if_neg (by simp)]
        have n2 := fun H => refTakeText_spec b2 30 (by omega) H
        have f2 := tt_facts b2 30
        generalize tt b2 30 = x2 at n2 f2 ⊢
        obtain ⟨c, b3, e2⟩ := x2
        dsimp only at n2 f2 ⊢
        by_cases h2 : e2 = 0
        · subst h2
          rw [if_neg (by simp)]
          have n3 := fun H => refTake_spec b3 (by omega) H
          have f3 : (tk b3).2.1.length ≤ b3.length ∧ (tk b3).1 ≤ 4611686018427387904 ∧ 0 ≤ (tk b3).2.2 ∧ (tk b3).2.2 ≤ 3 := tkGo_facts 9 0 0 b3
          generalize tk b3 = x3 at n3 f3 ⊢
          obtain ⟨n, b4, e3⟩ := x3
          dsimp only at n3 f3 ⊢
          by_cases h3 : e3 = 0
          · subst h3
            rw [if_neg (by simp)]
            have n4 := fun H => refTakeText_spec b4 30000 (by omega) H
            have f4 := tt_facts b4 30000
            generalize tt b4 30000 = x4 at n4 f4 ⊢
            obtain ⟨p, b5, e4⟩ := x4
            dsimp only at n4 f4 ⊢
            by_cases h4 : e4 = 0
            · subst h4
              rw [if_neg (by simp)]
              have hr : ∀ H, ASpec Tryd.prog 41 [.agg [vi k, vs c, vi n, vB p]] H (Gives (vb (frRight ⟨k, c, n, p⟩)) H) := fun H => refRight_spec ⟨k, c, n, p⟩ (by dsimp only; omega) (by dsimp only; omega) H
              by_cases h5 : (0 : Int) < (b5.length : Int)
              · have hne : b5 ≠ [] := by rintro rfl; simp at h5
                rw [if_pos (.inl hne)]
                refine ASpec.enter Tryd.func17 rfl (fun a w => Tryd.call17 a w) Tryd.ntmps17 Tryd.results17 fun base w β hI => ?_
                try unfold opnV at *
                try unfold tkV at *
                try unfold ttV at *
                try dsimp only at *
                refine wk (wA h3l (wA hd (wA h0' (wA h5 wT)))) (wA ho (wA n1 (wA n2 (wA n3 (wA n4 (wA hr (wA DrM.mk wT))))))) ?_
                refine wkEnd wT ?_
                exact cut_frame0 ⟨rfl, rfl⟩
              · have hnil : b5 = [] := List.eq_nil_of_length_eq_zero (by omega)
                subst hnil
                cases hR : frRight ⟨k, c, n, p⟩ with
                | false =>
                  rw [if_pos (.inr rfl)]
                  rw [hR] at hr
                  refine ASpec.enter Tryd.func17 rfl (fun a w => Tryd.call17 a w) Tryd.ntmps17 Tryd.results17 fun base w β hI => ?_
                  try unfold opnV at *
                  try unfold tkV at *
                  try unfold ttV at *
                  try dsimp only at *
                  refine wk (wA h3l (wA hd (wA h0' (wA h5 wT)))) (wA ho (wA n1 (wA n2 (wA n3 (wA n4 (wA hr (wA DrM.mk wT))))))) ?_
                  refine wkEnd wT ?_
                  exact cut_frame0 ⟨rfl, rfl⟩
                | true =>
                  rw [if_neg (by simp)]
                  rw [hR] at hr
                  by_cases h6 : c = cl
                  · rw [if_neg (by simpa using h6)]
                    have h6' := eq_true h6
                    refine ASpec.enter Tryd.func17 rfl (fun a w => Tryd.call17 a w) Tryd.ntmps17 Tryd.results17 fun base w β hI => ?_
                    try unfold opnV at *
                    try unfold tkV at *
                    try unfold ttV at *
                    try dsimp only at *
                    refine wk (wA h3l (wA hd (wA h0' (wA h5 (wA h6' wT))))) (wA ho (wA n1 (wA n2 (wA n3 (wA n4 (wA hr (wA DrM.mk wT))))))) ?_
                    refine wkEnd wT ?_
                    exact cut_frame ⟨rfl, rfl⟩
                  · rw [if_pos h6]
                    refine ASpec.enter Tryd.func17 rfl (fun a w => Tryd.call17 a w) Tryd.ntmps17 Tryd.results17 fun base w β hI => ?_
                    try unfold opnV at *
                    try unfold tkV at *
                    try unfold ttV at *
                    try dsimp only at *
                    refine wk (wA h3l (wA hd (wA h0' (wA h5 (wA h6 wT))))) (wA ho (wA n1 (wA n2 (wA n3 (wA n4 (wA hr (wA DrM.mk wT))))))) ?_
                    refine wkEnd wT ?_
                    exact cut_frame0 ⟨rfl, rfl⟩
            · rw [if_pos h4]
              refine ASpec.enter Tryd.func17 rfl (fun a w => Tryd.call17 a w) Tryd.ntmps17 Tryd.results17 fun base w β hI => ?_
              try unfold opnV at *
              try unfold tkV at *
              try unfold ttV at *
              try dsimp only at *
              refine wk (wA h3l (wA hd (wA h0' (wA h4 wT)))) (wA ho (wA n1 (wA n2 (wA n3 (wA n4 (wA DrM.mk wT)))))) ?_
              refine wkEnd wT ?_
              exact cut_frame0 ⟨rfl, rfl⟩
          · rw [if_pos h3]
            refine ASpec.enter Tryd.func17 rfl (fun a w => Tryd.call17 a w) Tryd.ntmps17 Tryd.results17 fun base w β hI => ?_
            try unfold opnV at *
            try unfold tkV at *
            try unfold ttV at *
            try dsimp only at *
            refine wk (wA h3l (wA hd (wA h0' (wA h3 wT)))) (wA ho (wA n1 (wA n2 (wA n3 (wA DrM.mk wT))))) ?_
            refine wkEnd wT ?_
            exact cut_frame0 ⟨rfl, rfl⟩
        · rw [if_pos h2]
          refine ASpec.enter Tryd.func17 rfl (fun a w => Tryd.call17 a w) Tryd.ntmps17 Tryd.results17 fun base w β hI => ?_
          try unfold opnV at *
          try unfold tkV at *
          try unfold ttV at *
          try dsimp only at *
          refine wk (wA h3l (wA hd (wA h0' (wA h2 wT)))) (wA ho (wA n1 (wA n2 (wA DrM.mk wT)))) ?_
          refine wkEnd wT ?_
          exact cut_frame0 ⟨rfl, rfl⟩
      · rw [if_pos h1]
        refine ASpec.enter Tryd.func17 rfl (fun a w => Tryd.call17 a w) Tryd.ntmps17 Tryd.results17 fun base w β hI => ?_
        try unfold opnV at *
        try unfold tkV at *
        try unfold ttV at *
        try dsimp only at *
        refine wk (wA h3l (wA hd (wA h0' (wA h1 wT)))) (wA ho (wA n1 (wA DrM.mk wT))) ?_
        refine wkEnd wT ?_
        exact cut_frame0 ⟨rfl, rfl⟩
    · rw [if_neg h0]
      refine ASpec.enter Tryd.func17 rfl (fun a w => Tryd.call17 a w) Tryd.ntmps17 Tryd.results17 fun base w β hI => ?_
      try unfold opnV at *
      try dsimp only at *
      refine wk (wA h3l (wA h0 wT)) (wA ho (wA DrM.mk wT)) ?_
      refine wkEnd wT ?_
      exact cut_frame0 ⟨rfl, rfl⟩
  · rw [if_pos he]
    refine ASpec.enter Tryd.func17 rfl (fun a w => Tryd.call17 a w) Tryd.ntmps17 Tryd.results17 fun base w β hI => ?_
    try unfold opnV at *
    try dsimp only at *
    refine wk (wA he wT) (wA ho (wA DrM.mk wT)) ?_
    refine wkEnd wT ?_
    exact cut_frame0 ⟨rfl, rfl⟩

theorem frD_len (bs cl : List UInt8) : (frD bs cl).1.p.length ≤ 30000 ∧ (frD bs cl).1.c.length ≤ 30 := by
  by_cases h : (frD bs cl).2 = 0
  · have := frRight_spec (frD_once h).1
    omega
  · rw [frD_zero h]
    simp [Fr0]
theorem frSame_self (f : Fr) : frSame f f = true := by simp [frSame]
theorem frB_length (f : Fr) (h : frRight f = true) : (frB f).length ≤ 30090 := by
  have h := frRight_spec h
  have h1 := numB_length_le f.k
  have h2 := numB_length_le f.n
  have h3 := numB_length_le f.c.length
  have h4 := numB_length_le f.p.length
  simp [frB, sealB_length, frIn, textB]
  omega

/-- What a frame without a payload is. -/
theorem ASpec.sub {P : Program} {f : FuncId} {args args' : List AV} {H : List Box} {K : Out → List Box → Prop} (h : ASpec P f args' H K) (hr : ∀ (w : World) (H : List Box) (β : Pl) (vs : Array Value), Reps w H β args vs → Reps w H β args' vs) : ASpec P f args H K := fun base =>
  fun w β vs hI hv => (h base) w β vs hI (hr w H β vs hv)
theorem Rep.fr0 {w : World} {H : List Box} {β : Pl} {a b c : AV} {x : Value} (h : Rep w H β (.agg [a, b, c, .emp]) x) : Rep w H β (.agg [a, b, c, vB []]) x := by
  cases h with
  | agg cs vs hl h =>
    refine .agg _ vs (by simpa using hl) fun j c' x hc hx => ?_
    rcases j with _ | _ | _ | _ | j
    · simp at hc; subst hc; exact h 0 _ x rfl hx
    · simp at hc; subst hc; exact h 1 _ x rfl hx
    · simp at hc; subst hc; exact h 2 _ x rfl hx
    · simp at hc; subst hc
      have := h 3 _ x rfl hx
      cases this with
      | emp a => exact .lst0 _ _ _
    · simp at hc
theorem ASpec.fr0 {P : Program} {f : FuncId} {a b c : AV} {H : List Box} {K : Out → List Box → Prop} (h : ASpec P f [.agg [a, b, c, vB []]] H K) : ASpec P f [.agg [a, b, c, .emp]] H K :=
  h.sub fun w H β vs hv => ⟨by simpa using hv.1, fun i c' x hc hx => by
    rcases i with _ | i
    · simp at hc; subst hc
      exact (hv.2 0 _ x rfl hx).fr0
    · simp at hc⟩

def frGreat (f : Fr) : Bool := decide (300 < f.c.length ∨ 3000 < f.p.length)
def frAl : Fr := ⟨6, [99], 2, []⟩
theorem nb_lt128 {n : Nat} (h : n < 128) : numB (n : Int) = [UInt8.ofNat n] := by rw [numB_natI n (by omega), nb_small h]
theorem frAl_in : frIn frAl = [66, 87, 1, 6, 1, 99, 2, 0] := by
  have h6 : numB 6 = [6] := nb_lt128 (n := 6) (by decide)
  have h1 : numB 1 = [1] := nb_lt128 (n := 1) (by decide)
  have h2 : numB 2 = [2] := nb_lt128 (n := 2) (by decide)
  have h0 : numB 0 = [0] := nb_lt128 (n := 0) (by decide)
  simp [frIn, frAl, textB, h6, h1, h2, h0]
theorem frAl_right : frRight frAl = true := by decide

end Go.Proofs.YtjkdahpoalnjjaaDoor.VL

/- The value logic: a walk as one lemma. -/
import Derived.Test.YtnlmdeeadldgmaaGreatDoorZG16
import Derived.Test.YtnlmdeeadldgmaaGreatDoorZG17
import Derived.Test.YtnlmdeeadldgmaaGreatDoorZG14
import Derived.Test.YtnlmdeeadldgmaaGreatDoorZG13
set_option linter.unusedVariables false
set_option linter.unusedSimpArgs false
namespace Go.Proofs.YtnlmdeeadldgmaaGreatDoor.VL
open Go Go.RowKit Go.Lib

/-- What is left of a walk. -/
structure Leaf (L : Prop) : Prop where
  out : L
theorem wA {a b : Prop} (h : a) (h' : b) : a ∧ b := ⟨h, h'⟩
theorem wT : True := trivial
/-- Marks. -/
structure HolM (id m : Nat) (sp : List Sp) : Prop where
structure OwnM (id : Nat) : Prop where
structure OwnBM : Prop where
structure OwnGM : Prop where
structure TlM : Prop where
structure DrM : Prop where
structure TnM (id n : Nat) : Prop where
section
variable {P : Program} {E : Ent}
theorem AWP.drawH_o {H0 : List Box} {Q : AExit → ASt → Prop} {id : Nat} {os : List Oper} {l : List (Nat × AV)} {N : List Box} {m : Nat} {sp : List Sp} (_ : HolM id m sp) (hm : P.follows .mixedOrders = true) (hB : holeB .any os.toArray sp = true)
    (h : ∀ K : List (Nat × AV) → List Box → Prop, (∀ l N, Q .normal ⟨l, H0 ++ N⟩ → K l N) → hops P E os.toArray H0 N.length K os sp (N ++ List.replicate m hole) l) :
    AWP P E (.region id os.toArray true) Q ⟨l, H0 ++ N⟩ := AWP.drawH_k m sp hm hB h
theorem AWP.drawH0_o {H0 : List Box} {Q : AExit → ASt → Prop} {id : Nat} {os : List Oper} {l : List (Nat × AV)} {m : Nat} {sp : List Sp} (_ : HolM id m sp) (hm : P.follows .mixedOrders = true) (hB : holeB .any os.toArray sp = true)
    (h : ∀ K : List (Nat × AV) → List Box → Prop, (∀ l N, Q .normal ⟨l, H0 ++ N⟩ → K l N) → hops P E os.toArray H0 0 K os sp (List.replicate m hole) l) :
    AWP P E (.region id os.toArray true) Q ⟨l, H0⟩ := AWP.drawH0_k m sp hm hB h
theorem AWP.region_o {Q : AExit → ASt → Prop} {σ : ASt} {id : Nat} {l : List Oper} (_ : OwnM id) (h : ∀ Q' : AExit → ASt → Prop, (∀ e σ, Q e σ → Q' e σ) → SOps P E l.toArray Q' l σ) : AWP P E (.region id l.toArray false) Q σ := AWP.region_s h
theorem SOps.ownBo {Q : AExit → ASt → Prop} {ops : Array Oper} {dst : Option Tmp} {t : TypeId} {n : Nat} {ps : Array (Nat × Operand)} {ty : TypeId} {pos : String} {after : Array Edge} {rest : List Oper} {σ : ASt} (_ : OwnBM)
    (h : ∀ T : ASt → Prop, (∀ σ, SOps P E ops Q rest σ → T σ) → dstOk E dst ∧ match abuildO P (fun x => unlit (aeval σ.tmps x)) t n ps with
      | some (sz, cs) => T ⟨put σ.tmps dst (.sl σ.H.length 0 0 n sz false), σ.H ++ [⟨cs, 0, 0, true⟩]⟩
      | none => False) : SOps P E ops Q ({ dst := dst, op := .buildSlice t n ps, type := ty, pos := pos, after := after, guard := none } :: rest) σ := SOps.ownB h
theorem SOps.ownGo {Q : AExit → ASt → Prop} {ops : Array Oper} {dst : Option Tmp} {s d : TypeId} {x : Operand} {ty : TypeId} {pos : String} {after : Array Edge} {rest : List Oper} {σ : ASt} (_ : OwnGM)
    (h : ∀ T : ASt → Prop, (∀ σ, SOps P E ops Q rest σ → T σ) → dstOk E dst ∧ match P.underlying s, P.underlying d, aeval σ.tmps x with
      | some _, some (.slice e), .v (.string b) => P.underlying e = some (.int .u8) ∧ T ⟨put σ.tmps dst (.sl σ.H.length 0 0 b.size 1 false), σ.H ++ [⟨bytesC b.data.toList, 0, 0, true⟩]⟩
      | _, _, _ => False) : SOps P E ops Q ({ dst := dst, op := .convert s d x, type := ty, pos := pos, after := after, guard := none } :: rest) σ := SOps.ownG h
theorem AWP.draw_o {Q : AExit → ASt → Prop} {id : Nat} {os : List Oper} {l : List (Nat × AV)} {H : List Box} (_ : DrM) (hm : P.follows .mixedOrders = true) (hB : Region.lexB .any os.toArray = true)
    (h : ∀ K : List (Nat × AV) → Prop, (∀ l, Q .normal ⟨l, H⟩ → K l) → qops P E os.toArray H K os l) : AWP P E (.region id os.toArray true) Q ⟨l, H⟩ := AWP.draw_k hm hB h
theorem AWP.drawT_o {H : List Box} {Q : AExit → ASt → Prop} {id : Nat} {os : List Oper} {l : List (Nat × AV)} (_ : TlM) (hm : P.follows .mixedOrders = true) (hB : Region.lexTailB .any os.toArray (os.length - 1) = true)
    (h : ∀ Q' : AExit → ASt → Prop, (∀ e σ, Q e σ → Q' e σ) → qops P E os.toArray H (fun l => aops P E os.toArray Q' (os.drop (os.length - 1)) ⟨l, H⟩) (os.take (os.length - 1)) l) :
    AWP P E (.region id os.toArray true) Q ⟨l, H⟩ := AWP.drawT_k hm hB h
theorem AWP.drawTn_o {H : List Box} {Q : AExit → ASt → Prop} {id : Nat} {os : List Oper} {l : List (Nat × AV)} {n : Nat} (_ : TnM id n) (hm : P.follows .mixedOrders = true) (hB : Region.lexTailB .any os.toArray n = true)
    (h : ∀ Q' : AExit → ASt → Prop, (∀ e σ, Q e σ → Q' e σ) → qops P E os.toArray H (fun l => aops P E os.toArray Q' (os.drop n) ⟨l, H⟩) (os.take n) l) :
    AWP P E (.region id os.toArray true) Q ⟨l, H⟩ := AWP.drawTn_k n hm hB h
end

set_option maxRecDepth 100000
theorem wk {F S L G : Prop} (f : F) (s : S) (k : L) (h : F → S → Leaf L → G := by
  intro hF hS hK
  try obtain ⟨s0, hS⟩ := hS
  try obtain ⟨s1, hS⟩ := hS
  try obtain ⟨s2, hS⟩ := hS
  try obtain ⟨s3, hS⟩ := hS
  try obtain ⟨s4, hS⟩ := hS
  try obtain ⟨s5, hS⟩ := hS
  try obtain ⟨s6, hS⟩ := hS
  try obtain ⟨s7, hS⟩ := hS
  try obtain ⟨s8, hS⟩ := hS
  try obtain ⟨s9, hS⟩ := hS
  try obtain ⟨s10, hS⟩ := hS
  try obtain ⟨s11, hS⟩ := hS
  try obtain ⟨s12, hS⟩ := hS
  try obtain ⟨s13, hS⟩ := hS
  try obtain ⟨s14, hS⟩ := hS
  try obtain ⟨s15, hS⟩ := hS
  try obtain ⟨s16, hS⟩ := hS
  try obtain ⟨s17, hS⟩ := hS
  try obtain ⟨s18, hS⟩ := hS
  try obtain ⟨s19, hS⟩ := hS
  try simp only [number]
  try simp only [AExit.then, AExit.inBlock, AExit.noGoto, reduceIte, Nat.reduceEqDiff]
  repeat' (first
    | (with_reducible refine aops.step fun T hT => ?_; simp (disch := omega) only [go_sem, Nat.reduceBEq, Nat.reduceLT, Nat.reduceEqDiff, reduceIte, Nat.reduceAdd, Nat.reduceMul, Nat.reduceSub, Nat.reduceLeDiff, Int.reduceToNat, Int.reducePow, Int.reduceLT, Int.reduceEq, Int.reduceBEq, Int.reduceNeg, Nat.reducePow, List.reduceReplicate, Int.reduceLE, eq_self, Nat.le_refl, hF])
    | (with_reducible refine hT _ ?_; clear hT T)
    | (with_reducible refine aops.nil ?_)
    | (with_reducible refine qops.step fun T hT => ?_; simp (disch := omega) only [go_sem, Nat.reduceBEq, Nat.reduceLT, Nat.reduceEqDiff, reduceIte, Nat.reduceAdd, Nat.reduceMul, Nat.reduceSub, Nat.reduceLeDiff, Int.reduceToNat, Int.reducePow, Int.reduceLT, Int.reduceEq, Int.reduceBEq, Int.reduceNeg, Nat.reducePow, List.reduceReplicate, Int.reduceLE, eq_self, Nat.le_refl, hF])
    | (with_reducible refine qops.nil ?_)
    | (with_reducible refine hops.step fun T hT => ?_; simp (disch := omega) only [hone, hskip, patch, hole, List.headD_cons, List.tail_cons, Prod.mk.injEq, eq_self, and_assoc, exists_and_left, List.append_cancel_left_eq, List.cons.injEq, go_sem, Nat.reduceBEq, Nat.reduceLT, Nat.reduceEqDiff, reduceIte, Nat.reduceAdd, Nat.reduceMul, Nat.reduceSub, Nat.reduceLeDiff, Int.reduceToNat, Int.reducePow, Int.reduceLT, Int.reduceEq, Int.reduceBEq, Int.reduceNeg, Nat.reducePow, List.reduceReplicate, Int.reduceLE, eq_self, Nat.le_refl, hF])
    | (with_reducible refine hops.nil ?_)
    | (with_reducible refine hT _ _ ?_; clear hT T)
    | (with_reducible refine SOps.ownBo (by first | exact s0 | exact s1 | exact s2 | exact s3 | exact s4 | exact s5 | exact s6 | exact s7 | exact s8 | exact s9 | exact s10 | exact s11 | exact s12 | exact s13 | exact s14 | exact s15 | exact s16 | exact s17 | exact s18 | exact s19) fun T hT => ?_; simp (disch := omega) only [go_sem, Nat.reduceBEq, Nat.reduceLT, Nat.reduceEqDiff, reduceIte, Nat.reduceAdd, Nat.reduceMul, Nat.reduceSub, Nat.reduceLeDiff, Int.reduceToNat, Int.reducePow, Int.reduceLT, Int.reduceEq, Int.reduceBEq, Int.reduceNeg, Nat.reducePow, List.reduceReplicate, Int.reduceLE, eq_self, Nat.le_refl, hF])
    | (with_reducible refine SOps.ownGo (by first | exact s0 | exact s1 | exact s2 | exact s3 | exact s4 | exact s5 | exact s6 | exact s7 | exact s8 | exact s9 | exact s10 | exact s11 | exact s12 | exact s13 | exact s14 | exact s15 | exact s16 | exact s17 | exact s18 | exact s19) fun T hT => ?_; simp (disch := omega) only [go_sem, Nat.reduceBEq, Nat.reduceLT, Nat.reduceEqDiff, reduceIte, Nat.reduceAdd, Nat.reduceMul, Nat.reduceSub, Nat.reduceLeDiff, Int.reduceToNat, Int.reducePow, Int.reduceLT, Int.reduceEq, Int.reduceBEq, Int.reduceNeg, Nat.reducePow, List.reduceReplicate, Int.reduceLE, eq_self, Nat.le_refl, hF])
    | (with_reducible refine SOps.map2 fun T hT => ?_; simp (disch := omega) only [go_sem, Nat.reduceBEq, Nat.reduceLT, Nat.reduceEqDiff, reduceIte, Nat.reduceAdd, Nat.reduceMul, Nat.reduceSub, Nat.reduceLeDiff, Int.reduceToNat, Int.reducePow, Int.reduceLT, Int.reduceEq, Int.reduceBEq, Int.reduceNeg, Nat.reducePow, List.reduceReplicate, Int.reduceLE, eq_self, Nat.le_refl, hF])
    | (with_reducible refine SOps.own fun T hT => ?_; simp (disch := omega) only [go_sem, Nat.reduceBEq, Nat.reduceLT, Nat.reduceEqDiff, reduceIte, Nat.reduceAdd, Nat.reduceMul, Nat.reduceSub, Nat.reduceLeDiff, Int.reduceToNat, Int.reducePow, Int.reduceLT, Int.reduceEq, Int.reduceBEq, Int.reduceNeg, Nat.reducePow, List.reduceReplicate, Int.reduceLE, eq_self, Nat.le_refl, hF])
    | (with_reducible refine SOps.step fun T hT => ?_; simp (disch := omega) only [go_sem, Nat.reduceBEq, Nat.reduceLT, Nat.reduceEqDiff, reduceIte, Nat.reduceAdd, Nat.reduceMul, Nat.reduceSub, Nat.reduceLeDiff, Int.reduceToNat, Int.reducePow, Int.reduceLT, Int.reduceEq, Int.reduceBEq, Int.reduceNeg, Nat.reducePow, List.reduceReplicate, Int.reduceLE, eq_self, Nat.le_refl, hF])
    | (with_reducible refine SOps.nil ?_)
    | (with_reducible refine AWP.seq ?_)
    | (with_reducible refine AWP.block ?_)
    | (refine AWP.cond rfl (fun h => ?_) (fun h => ?_) <;> (try simp only [decide_eq_true_eq, decide_eq_false_iff_not, Bool.true_eq_false, Bool.false_eq_true] at h) <;> (try contradiction))
    | (refine AWP.region_o (by first | exact s0 | exact s1 | exact s2 | exact s3 | exact s4 | exact s5 | exact s6 | exact s7 | exact s8 | exact s9 | exact s10 | exact s11 | exact s12 | exact s13 | exact s14 | exact s15 | exact s16 | exact s17 | exact s18 | exact s19) fun Q' hQ' => ?_)
    | (refine AWP.drawH_o (by first | exact s0 | exact s1 | exact s2 | exact s3 | exact s4 | exact s5 | exact s6 | exact s7 | exact s8 | exact s9 | exact s10 | exact s11 | exact s12 | exact s13 | exact s14 | exact s15 | exact s16 | exact s17 | exact s18 | exact s19) rfl (by decide +kernel) fun Q' hQ' => ?_)
    | (refine AWP.drawH0_o (by first | exact s0 | exact s1 | exact s2 | exact s3 | exact s4 | exact s5 | exact s6 | exact s7 | exact s8 | exact s9 | exact s10 | exact s11 | exact s12 | exact s13 | exact s14 | exact s15 | exact s16 | exact s17 | exact s18 | exact s19) rfl (by decide +kernel) fun Q' hQ' => ?_)
    | (refine AWP.region_k fun Q' hQ' => ?_)
    | (refine AWP.drawT_o (by first | exact s0 | exact s1 | exact s2 | exact s3 | exact s4 | exact s5 | exact s6 | exact s7 | exact s8 | exact s9 | exact s10 | exact s11 | exact s12 | exact s13 | exact s14 | exact s15 | exact s16 | exact s17 | exact s18 | exact s19) rfl (by decide +kernel) fun Q' hQ' => ?_; try simp only [List.length_cons, List.length_nil, Nat.reduceAdd, Nat.reduceSub, List.take_succ_cons, List.take_zero, List.drop_succ_cons, List.drop_zero])
    | (refine AWP.drawTn_o (by first | exact s0 | exact s1 | exact s2 | exact s3 | exact s4 | exact s5 | exact s6 | exact s7 | exact s8 | exact s9 | exact s10 | exact s11 | exact s12 | exact s13 | exact s14 | exact s15 | exact s16 | exact s17 | exact s18 | exact s19) rfl (by decide +kernel) fun Q' hQ' => ?_; try simp only [List.length_cons, List.length_nil, Nat.reduceAdd, Nat.reduceSub, List.take_succ_cons, List.take_zero, List.drop_succ_cons, List.drop_zero])
    | (refine AWP.draw_o (by first | exact s0 | exact s1 | exact s2 | exact s3 | exact s4 | exact s5 | exact s6 | exact s7 | exact s8 | exact s9 | exact s10 | exact s11 | exact s12 | exact s13 | exact s14 | exact s15 | exact s16 | exact s17 | exact s18 | exact s19) rfl (by kernel_rfl) fun Q' hQ' => ?_)
    | (with_reducible refine AWP.skip ?_; try simp only [AExit.then, AExit.inBlock, AExit.noGoto, reduceIte, Nat.reduceEqDiff])
    | (with_reducible refine AWP.exit ?_; try simp only [AExit.then, AExit.inBlock, AExit.noGoto, reduceIte, Nat.reduceEqDiff])
    | (with_reducible refine AWP.ret ?_; try simp only [AExit.then, AExit.inBlock, AExit.noGoto, reduceIte, Nat.reduceEqDiff])
    | (with_reducible refine AWP.scope ?_)
    | (with_reducible refine AWP.label ?_; try simp only [AExit.then, AExit.inBlock, AExit.noGoto, reduceIte, Nat.reduceEqDiff])
    | (refine hQ' (AExit.panic _) _ ?_; clear hT T hQ' Q'; try simp only [AExit.then, AExit.inBlock, AExit.noGoto, reduceIte, Nat.reduceEqDiff])
    | (refine hQ' (AExit.panic _) _ ?_; clear hQ' Q'; try simp only [AExit.then, AExit.inBlock, AExit.noGoto, reduceIte, Nat.reduceEqDiff])
    | (refine hQ' _ _ ?_; clear hQ' Q'; try simp only [AExit.then, AExit.inBlock, AExit.noGoto, reduceIte, Nat.reduceEqDiff])
    | (refine hQ' _ ?_; clear hQ' Q'; try simp only [AExit.then, AExit.inBlock, AExit.noGoto, reduceIte, Nat.reduceEqDiff])
    | (with_reducible refine Branch.split (fun h => ?_) (fun h => ?_) <;> (try simp only [decide_eq_true_eq, decide_eq_false_iff_not, Bool.not_true, Bool.not_false, Bool.true_eq_false, Bool.false_eq_true] at h) <;> (try contradiction) <;> (simp (disch := omega) only [go_sem, Nat.reduceBEq, Nat.reduceLT, Nat.reduceEqDiff, reduceIte, Nat.reduceAdd, Nat.reduceMul, Nat.reduceSub, Nat.reduceLeDiff, Int.reduceToNat, Int.reducePow, Int.reduceLT, Int.reduceEq, Int.reduceBEq, Int.reduceNeg, Nat.reducePow, List.reduceReplicate, Int.reduceLE, eq_self, Nat.le_refl, h, hF]))
    | (with_reducible intro h; try simp only [h, go_sem, Nat.reduceBEq, Nat.reduceLT, Nat.reduceEqDiff, reduceIte, Nat.reduceAdd, Nat.reduceMul, Nat.reduceSub, Nat.reduceLeDiff, Int.reduceToNat, Int.reducePow, Int.reduceLT, Int.reduceEq, Int.reduceBEq, Int.reduceNeg, Nat.reducePow, List.reduceReplicate, Int.reduceLE, eq_self, Nat.le_refl, hF])
    | ((first
      | (with_reducible refine acall.det (s0 ..) ?_)
      | (with_reducible refine acall.det (s1 ..) ?_)
      | (with_reducible refine acall.det (s2 ..) ?_)
      | (with_reducible refine acall.det (s3 ..) ?_)
      | (with_reducible refine acall.det (s4 ..) ?_)
      | (with_reducible refine acall.det (s5 ..) ?_)
      | (with_reducible refine acall.det (s6 ..) ?_)
      | (with_reducible refine acall.det (s7 ..) ?_)
      | (with_reducible refine acall.det (s8 ..) ?_)
      | (with_reducible refine acall.det (s9 ..) ?_)
      | (with_reducible refine acall.det (s10 ..) ?_)
      | (with_reducible refine acall.det (s11 ..) ?_)
      | (with_reducible refine acall.det (s12 ..) ?_)
      | (with_reducible refine acall.det (s13 ..) ?_)
      | (with_reducible refine acall.det (s14 ..) ?_)
      | (with_reducible refine acall.det (s15 ..) ?_)
      | (with_reducible refine acall.det (s16 ..) ?_)
      | (with_reducible refine acall.det (s17 ..) ?_)
      | (with_reducible refine acall.det (s18 ..) ?_)
      | (with_reducible refine acall.det (s19 ..) ?_)
      | (with_reducible refine qcall.det (s0 ..) ?_)
      | (with_reducible refine qcall.det (s1 ..) ?_)
      | (with_reducible refine qcall.det (s2 ..) ?_)
      | (with_reducible refine qcall.det (s3 ..) ?_)
      | (with_reducible refine qcall.det (s4 ..) ?_)
      | (with_reducible refine qcall.det (s5 ..) ?_)
      | (with_reducible refine qcall.det (s6 ..) ?_)
      | (with_reducible refine qcall.det (s7 ..) ?_)
      | (with_reducible refine qcall.det (s8 ..) ?_)
      | (with_reducible refine qcall.det (s9 ..) ?_)
      | (with_reducible refine qcall.det (s10 ..) ?_)
      | (with_reducible refine qcall.det (s11 ..) ?_)
      | (with_reducible refine qcall.det (s12 ..) ?_)
      | (with_reducible refine qcall.det (s13 ..) ?_)
      | (with_reducible refine qcall.det (s14 ..) ?_)
      | (with_reducible refine qcall.det (s15 ..) ?_)
      | (with_reducible refine qcall.det (s16 ..) ?_)
      | (with_reducible refine qcall.det (s17 ..) ?_)
      | (with_reducible refine qcall.det (s18 ..) ?_)
      | (with_reducible refine qcall.det (s19 ..) ?_)
      | (with_reducible refine hcall.det (fun _ => s0 ..) ?_)
      | (with_reducible refine hcall.wr (fun _ => s0 ..) ?_)
      | (with_reducible refine hcall.wr0 (s0 ..) ?_)
      | (with_reducible refine hcall.det (fun _ => s1 ..) ?_)
      | (with_reducible refine hcall.wr (fun _ => s1 ..) ?_)
      | (with_reducible refine hcall.wr0 (s1 ..) ?_)
      | (with_reducible refine hcall.det (fun _ => s2 ..) ?_)
      | (with_reducible refine hcall.wr (fun _ => s2 ..) ?_)
      | (with_reducible refine hcall.wr0 (s2 ..) ?_)
      | (with_reducible refine hcall.det (fun _ => s3 ..) ?_)
      | (with_reducible refine hcall.wr (fun _ => s3 ..) ?_)
      | (with_reducible refine hcall.wr0 (s3 ..) ?_)
      | (with_reducible refine hcall.det (fun _ => s4 ..) ?_)
      | (with_reducible refine hcall.wr (fun _ => s4 ..) ?_)
      | (with_reducible refine hcall.wr0 (s4 ..) ?_)
      | (with_reducible refine hcall.det (fun _ => s5 ..) ?_)
      | (with_reducible refine hcall.wr (fun _ => s5 ..) ?_)
      | (with_reducible refine hcall.wr0 (s5 ..) ?_)
      | (with_reducible refine hcall.det (fun _ => s6 ..) ?_)
      | (with_reducible refine hcall.wr (fun _ => s6 ..) ?_)
      | (with_reducible refine hcall.wr0 (s6 ..) ?_)
      | (with_reducible refine hcall.det (fun _ => s7 ..) ?_)
      | (with_reducible refine hcall.wr (fun _ => s7 ..) ?_)
      | (with_reducible refine hcall.wr0 (s7 ..) ?_)
      | (with_reducible refine hcall.det (fun _ => s8 ..) ?_)
      | (with_reducible refine hcall.wr (fun _ => s8 ..) ?_)
      | (with_reducible refine hcall.wr0 (s8 ..) ?_)
      | (with_reducible refine hcall.det (fun _ => s9 ..) ?_)
      | (with_reducible refine hcall.wr (fun _ => s9 ..) ?_)
      | (with_reducible refine hcall.wr0 (s9 ..) ?_)
      | (with_reducible refine hcall.det (fun _ => s10 ..) ?_)
      | (with_reducible refine hcall.wr (fun _ => s10 ..) ?_)
      | (with_reducible refine hcall.wr0 (s10 ..) ?_)
      | (with_reducible refine hcall.det (fun _ => s11 ..) ?_)
      | (with_reducible refine hcall.wr (fun _ => s11 ..) ?_)
      | (with_reducible refine hcall.wr0 (s11 ..) ?_)
      | (with_reducible refine hcall.det (fun _ => s12 ..) ?_)
      | (with_reducible refine hcall.wr (fun _ => s12 ..) ?_)
      | (with_reducible refine hcall.wr0 (s12 ..) ?_)
      | (with_reducible refine hcall.det (fun _ => s13 ..) ?_)
      | (with_reducible refine hcall.wr (fun _ => s13 ..) ?_)
      | (with_reducible refine hcall.wr0 (s13 ..) ?_)
      | (with_reducible refine hcall.det (fun _ => s14 ..) ?_)
      | (with_reducible refine hcall.wr (fun _ => s14 ..) ?_)
      | (with_reducible refine hcall.wr0 (s14 ..) ?_)
      | (with_reducible refine hcall.det (fun _ => s15 ..) ?_)
      | (with_reducible refine hcall.wr (fun _ => s15 ..) ?_)
      | (with_reducible refine hcall.wr0 (s15 ..) ?_)
      | (with_reducible refine hcall.det (fun _ => s16 ..) ?_)
      | (with_reducible refine hcall.wr (fun _ => s16 ..) ?_)
      | (with_reducible refine hcall.wr0 (s16 ..) ?_)
      | (with_reducible refine hcall.det (fun _ => s17 ..) ?_)
      | (with_reducible refine hcall.wr (fun _ => s17 ..) ?_)
      | (with_reducible refine hcall.wr0 (s17 ..) ?_)
      | (with_reducible refine hcall.det (fun _ => s18 ..) ?_)
      | (with_reducible refine hcall.wr (fun _ => s18 ..) ?_)
      | (with_reducible refine hcall.wr0 (s18 ..) ?_)
      | (with_reducible refine hcall.det (fun _ => s19 ..) ?_)
      | (with_reducible refine hcall.wr (fun _ => s19 ..) ?_)
      | (with_reducible refine hcall.wr0 (s19 ..) ?_)); try simp (disch := omega) only [go_sem, Nat.reduceBEq, Nat.reduceLT, Nat.reduceEqDiff, reduceIte, Nat.reduceAdd, Nat.reduceMul, Nat.reduceSub, Nat.reduceLeDiff, Int.reduceToNat, Int.reducePow, Int.reduceLT, Int.reduceEq, Int.reduceBEq, Int.reduceNeg, Nat.reducePow, List.reduceReplicate, Int.reduceLE, eq_self, Nat.le_refl, hF]))
  exact hK.out) : G := h f s ⟨k⟩

theorem wkE {F S L G : Prop} (f : F) (s : S) (k : L) (h : F → S → Leaf L → G := by
  intro hF hS hK
  try obtain ⟨s0, hS⟩ := hS
  try obtain ⟨s1, hS⟩ := hS
  try obtain ⟨s2, hS⟩ := hS
  try obtain ⟨s3, hS⟩ := hS
  try obtain ⟨s4, hS⟩ := hS
  try obtain ⟨s5, hS⟩ := hS
  try obtain ⟨s6, hS⟩ := hS
  try obtain ⟨s7, hS⟩ := hS
  try obtain ⟨s8, hS⟩ := hS
  try obtain ⟨s9, hS⟩ := hS
  try obtain ⟨s10, hS⟩ := hS
  try obtain ⟨s11, hS⟩ := hS
  try obtain ⟨s12, hS⟩ := hS
  try obtain ⟨s13, hS⟩ := hS
  try obtain ⟨s14, hS⟩ := hS
  try obtain ⟨s15, hS⟩ := hS
  try obtain ⟨s16, hS⟩ := hS
  try obtain ⟨s17, hS⟩ := hS
  try obtain ⟨s18, hS⟩ := hS
  try obtain ⟨s19, hS⟩ := hS
  try simp only [number]
  try simp only [AExit.then, AExit.inBlock, AExit.noGoto, reduceIte, Nat.reduceEqDiff]
  repeat' (first
    | (with_reducible refine aops.step fun T hT => ?_; simp (disch := omega) only [go_sem, Nat.reduceBEq, Nat.reduceLT, Nat.reduceEqDiff, reduceIte, Nat.reduceAdd, Nat.reduceMul, Nat.reduceSub, Nat.reduceLeDiff, Int.reduceToNat, Int.reducePow, Int.reduceLT, Int.reduceEq, Int.reduceBEq, Int.reduceNeg, Nat.reducePow, List.reduceReplicate, Int.reduceLE, eq_self, Nat.le_refl, hF])
    | (with_reducible refine hT _ ?_; clear hT T)
    | (with_reducible refine aops.nil ?_)
    | (with_reducible refine qops.step fun T hT => ?_; simp (disch := omega) only [go_sem, Nat.reduceBEq, Nat.reduceLT, Nat.reduceEqDiff, reduceIte, Nat.reduceAdd, Nat.reduceMul, Nat.reduceSub, Nat.reduceLeDiff, Int.reduceToNat, Int.reducePow, Int.reduceLT, Int.reduceEq, Int.reduceBEq, Int.reduceNeg, Nat.reducePow, List.reduceReplicate, Int.reduceLE, eq_self, Nat.le_refl, hF])
    | (with_reducible refine qops.nil ?_)
    | (with_reducible refine hops.step fun T hT => ?_; simp (disch := omega) only [hone, hskip, patch, hole, List.headD_cons, List.tail_cons, Prod.mk.injEq, eq_self, and_assoc, exists_and_left, List.append_cancel_left_eq, List.cons.injEq, go_sem, Nat.reduceBEq, Nat.reduceLT, Nat.reduceEqDiff, reduceIte, Nat.reduceAdd, Nat.reduceMul, Nat.reduceSub, Nat.reduceLeDiff, Int.reduceToNat, Int.reducePow, Int.reduceLT, Int.reduceEq, Int.reduceBEq, Int.reduceNeg, Nat.reducePow, List.reduceReplicate, Int.reduceLE, eq_self, Nat.le_refl, hF])
    | (with_reducible refine hops.nil ?_)
    | (with_reducible refine hT _ _ ?_; clear hT T)
    | (with_reducible refine SOps.ownBo (by first | exact s0 | exact s1 | exact s2 | exact s3 | exact s4 | exact s5 | exact s6 | exact s7 | exact s8 | exact s9 | exact s10 | exact s11 | exact s12 | exact s13 | exact s14 | exact s15 | exact s16 | exact s17 | exact s18 | exact s19) fun T hT => ?_; simp (disch := omega) only [go_sem, Nat.reduceBEq, Nat.reduceLT, Nat.reduceEqDiff, reduceIte, Nat.reduceAdd, Nat.reduceMul, Nat.reduceSub, Nat.reduceLeDiff, Int.reduceToNat, Int.reducePow, Int.reduceLT, Int.reduceEq, Int.reduceBEq, Int.reduceNeg, Nat.reducePow, List.reduceReplicate, Int.reduceLE, eq_self, Nat.le_refl, hF])
    | (with_reducible refine SOps.ownGo (by first | exact s0 | exact s1 | exact s2 | exact s3 | exact s4 | exact s5 | exact s6 | exact s7 | exact s8 | exact s9 | exact s10 | exact s11 | exact s12 | exact s13 | exact s14 | exact s15 | exact s16 | exact s17 | exact s18 | exact s19) fun T hT => ?_; simp (disch := omega) only [go_sem, Nat.reduceBEq, Nat.reduceLT, Nat.reduceEqDiff, reduceIte, Nat.reduceAdd, Nat.reduceMul, Nat.reduceSub, Nat.reduceLeDiff, Int.reduceToNat, Int.reducePow, Int.reduceLT, Int.reduceEq, Int.reduceBEq, Int.reduceNeg, Nat.reducePow, List.reduceReplicate, Int.reduceLE, eq_self, Nat.le_refl, hF])
    | (with_reducible refine SOps.map2 fun T hT => ?_; simp (disch := omega) only [go_sem, Nat.reduceBEq, Nat.reduceLT, Nat.reduceEqDiff, reduceIte, Nat.reduceAdd, Nat.reduceMul, Nat.reduceSub, Nat.reduceLeDiff, Int.reduceToNat, Int.reducePow, Int.reduceLT, Int.reduceEq, Int.reduceBEq, Int.reduceNeg, Nat.reducePow, List.reduceReplicate, Int.reduceLE, eq_self, Nat.le_refl, hF])
    | (with_reducible refine SOps.own fun T hT => ?_; simp (disch := omega) only [go_sem, Nat.reduceBEq, Nat.reduceLT, Nat.reduceEqDiff, reduceIte, Nat.reduceAdd, Nat.reduceMul, Nat.reduceSub, Nat.reduceLeDiff, Int.reduceToNat, Int.reducePow, Int.reduceLT, Int.reduceEq, Int.reduceBEq, Int.reduceNeg, Nat.reducePow, List.reduceReplicate, Int.reduceLE, eq_self, Nat.le_refl, hF])
    | (with_reducible refine SOps.step fun T hT => ?_; simp (disch := omega) only [go_sem, Nat.reduceBEq, Nat.reduceLT, Nat.reduceEqDiff, reduceIte, Nat.reduceAdd, Nat.reduceMul, Nat.reduceSub, Nat.reduceLeDiff, Int.reduceToNat, Int.reducePow, Int.reduceLT, Int.reduceEq, Int.reduceBEq, Int.reduceNeg, Nat.reducePow, List.reduceReplicate, Int.reduceLE, eq_self, Nat.le_refl, hF])
    | (with_reducible refine SOps.nil ?_)
    | (with_reducible refine AWP.seq ?_)
    | (with_reducible refine AWP.block ?_)
    | (refine AWP.cond rfl (fun h => ?_) (fun h => ?_) <;> (try simp only [decide_eq_true_eq, decide_eq_false_iff_not, Bool.true_eq_false, Bool.false_eq_true] at h) <;> (try contradiction))
    | (refine AWP.region_o (by first | exact s0 | exact s1 | exact s2 | exact s3 | exact s4 | exact s5 | exact s6 | exact s7 | exact s8 | exact s9 | exact s10 | exact s11 | exact s12 | exact s13 | exact s14 | exact s15 | exact s16 | exact s17 | exact s18 | exact s19) fun Q' hQ' => ?_)
    | (refine AWP.drawH_o (by first | exact s0 | exact s1 | exact s2 | exact s3 | exact s4 | exact s5 | exact s6 | exact s7 | exact s8 | exact s9 | exact s10 | exact s11 | exact s12 | exact s13 | exact s14 | exact s15 | exact s16 | exact s17 | exact s18 | exact s19) rfl (by decide +kernel) fun Q' hQ' => ?_)
    | (refine AWP.drawH0_o (by first | exact s0 | exact s1 | exact s2 | exact s3 | exact s4 | exact s5 | exact s6 | exact s7 | exact s8 | exact s9 | exact s10 | exact s11 | exact s12 | exact s13 | exact s14 | exact s15 | exact s16 | exact s17 | exact s18 | exact s19) rfl (by decide +kernel) fun Q' hQ' => ?_)
    | (refine AWP.region_k fun Q' hQ' => ?_)
    | (refine AWP.drawT_o (by first | exact s0 | exact s1 | exact s2 | exact s3 | exact s4 | exact s5 | exact s6 | exact s7 | exact s8 | exact s9 | exact s10 | exact s11 | exact s12 | exact s13 | exact s14 | exact s15 | exact s16 | exact s17 | exact s18 | exact s19) rfl (by decide +kernel) fun Q' hQ' => ?_; try simp only [List.length_cons, List.length_nil, Nat.reduceAdd, Nat.reduceSub, List.take_succ_cons, List.take_zero, List.drop_succ_cons, List.drop_zero])
    | (refine AWP.drawTn_o (by first | exact s0 | exact s1 | exact s2 | exact s3 | exact s4 | exact s5 | exact s6 | exact s7 | exact s8 | exact s9 | exact s10 | exact s11 | exact s12 | exact s13 | exact s14 | exact s15 | exact s16 | exact s17 | exact s18 | exact s19) rfl (by decide +kernel) fun Q' hQ' => ?_; try simp only [List.length_cons, List.length_nil, Nat.reduceAdd, Nat.reduceSub, List.take_succ_cons, List.take_zero, List.drop_succ_cons, List.drop_zero])
    | (refine AWP.draw_o (by first | exact s0 | exact s1 | exact s2 | exact s3 | exact s4 | exact s5 | exact s6 | exact s7 | exact s8 | exact s9 | exact s10 | exact s11 | exact s12 | exact s13 | exact s14 | exact s15 | exact s16 | exact s17 | exact s18 | exact s19) rfl (by kernel_rfl) fun Q' hQ' => ?_)
    | (with_reducible refine AWP.skip ?_; try simp only [AExit.then, AExit.inBlock, AExit.noGoto, reduceIte, Nat.reduceEqDiff])
    | (with_reducible refine AWP.exit ?_; try simp only [AExit.then, AExit.inBlock, AExit.noGoto, reduceIte, Nat.reduceEqDiff])
    | (with_reducible refine AWP.ret ?_; try simp only [AExit.then, AExit.inBlock, AExit.noGoto, reduceIte, Nat.reduceEqDiff])
    | (with_reducible refine AWP.scope ?_)
    | (with_reducible refine AWP.label ?_; try simp only [AExit.then, AExit.inBlock, AExit.noGoto, reduceIte, Nat.reduceEqDiff])
    | (refine hQ' (AExit.panic _) _ ?_; clear hT T hQ' Q'; try simp only [AExit.then, AExit.inBlock, AExit.noGoto, reduceIte, Nat.reduceEqDiff])
    | (refine hQ' (AExit.panic _) _ ?_; clear hQ' Q'; try simp only [AExit.then, AExit.inBlock, AExit.noGoto, reduceIte, Nat.reduceEqDiff])
    | (refine hQ' _ _ ?_; clear hQ' Q'; try simp only [AExit.then, AExit.inBlock, AExit.noGoto, reduceIte, Nat.reduceEqDiff])
    | (refine hQ' _ ?_; clear hQ' Q'; try simp only [AExit.then, AExit.inBlock, AExit.noGoto, reduceIte, Nat.reduceEqDiff])
    | (with_reducible refine Branch.split (fun h => ?_) (fun h => ?_) <;> (try simp only [decide_eq_true_eq, decide_eq_false_iff_not, Bool.not_true, Bool.not_false, Bool.true_eq_false, Bool.false_eq_true] at h) <;> (try contradiction) <;> (simp (disch := omega) only [go_sem, Nat.reduceBEq, Nat.reduceLT, Nat.reduceEqDiff, reduceIte, Nat.reduceAdd, Nat.reduceMul, Nat.reduceSub, Nat.reduceLeDiff, Int.reduceToNat, Int.reducePow, Int.reduceLT, Int.reduceEq, Int.reduceBEq, Int.reduceNeg, Nat.reducePow, List.reduceReplicate, Int.reduceLE, eq_self, Nat.le_refl, h, hF]))
    | (with_reducible intro h; try simp only [h, go_sem, Nat.reduceBEq, Nat.reduceLT, Nat.reduceEqDiff, reduceIte, Nat.reduceAdd, Nat.reduceMul, Nat.reduceSub, Nat.reduceLeDiff, Int.reduceToNat, Int.reducePow, Int.reduceLT, Int.reduceEq, Int.reduceBEq, Int.reduceNeg, Nat.reducePow, List.reduceReplicate, Int.reduceLE, eq_self, Nat.le_refl, hF])
    | ((first
      | (with_reducible refine acall.det (s0 ..) ?_)
      | (with_reducible refine acall.det (s1 ..) ?_)
      | (with_reducible refine acall.det (s2 ..) ?_)
      | (with_reducible refine acall.det (s3 ..) ?_)
      | (with_reducible refine acall.det (s4 ..) ?_)
      | (with_reducible refine acall.det (s5 ..) ?_)
      | (with_reducible refine acall.det (s6 ..) ?_)
      | (with_reducible refine acall.det (s7 ..) ?_)
      | (with_reducible refine acall.det (s8 ..) ?_)
      | (with_reducible refine acall.det (s9 ..) ?_)
      | (with_reducible refine acall.det (s10 ..) ?_)
      | (with_reducible refine acall.det (s11 ..) ?_)
      | (with_reducible refine acall.det (s12 ..) ?_)
      | (with_reducible refine acall.det (s13 ..) ?_)
      | (with_reducible refine acall.det (s14 ..) ?_)
      | (with_reducible refine acall.det (s15 ..) ?_)
      | (with_reducible refine acall.det (s16 ..) ?_)
      | (with_reducible refine acall.det (s17 ..) ?_)
      | (with_reducible refine acall.det (s18 ..) ?_)
      | (with_reducible refine acall.det (s19 ..) ?_)
      | (with_reducible refine qcall.det (s0 ..) ?_)
      | (with_reducible refine qcall.det (s1 ..) ?_)
      | (with_reducible refine qcall.det (s2 ..) ?_)
      | (with_reducible refine qcall.det (s3 ..) ?_)
      | (with_reducible refine qcall.det (s4 ..) ?_)
      | (with_reducible refine qcall.det (s5 ..) ?_)
      | (with_reducible refine qcall.det (s6 ..) ?_)
      | (with_reducible refine qcall.det (s7 ..) ?_)
      | (with_reducible refine qcall.det (s8 ..) ?_)
      | (with_reducible refine qcall.det (s9 ..) ?_)
      | (with_reducible refine qcall.det (s10 ..) ?_)
      | (with_reducible refine qcall.det (s11 ..) ?_)
      | (with_reducible refine qcall.det (s12 ..) ?_)
      | (with_reducible refine qcall.det (s13 ..) ?_)
      | (with_reducible refine qcall.det (s14 ..) ?_)
      | (with_reducible refine qcall.det (s15 ..) ?_)
      | (with_reducible refine qcall.det (s16 ..) ?_)
      | (with_reducible refine qcall.det (s17 ..) ?_)
      | (with_reducible refine qcall.det (s18 ..) ?_)
      | (with_reducible refine qcall.det (s19 ..) ?_)
      | (with_reducible refine hcall.det (fun _ => s0 ..) ?_)
      | (with_reducible refine hcall.wr (fun _ => s0 ..) ?_)
      | (with_reducible refine hcall.wr0 (s0 ..) ?_)
      | (with_reducible refine hcall.det (fun _ => s1 ..) ?_)
      | (with_reducible refine hcall.wr (fun _ => s1 ..) ?_)
      | (with_reducible refine hcall.wr0 (s1 ..) ?_)
      | (with_reducible refine hcall.det (fun _ => s2 ..) ?_)
      | (with_reducible refine hcall.wr (fun _ => s2 ..) ?_)
      | (with_reducible refine hcall.wr0 (s2 ..) ?_)
      | (with_reducible refine hcall.det (fun _ => s3 ..) ?_)
      | (with_reducible refine hcall.wr (fun _ => s3 ..) ?_)
      | (with_reducible refine hcall.wr0 (s3 ..) ?_)
      | (with_reducible refine hcall.det (fun _ => s4 ..) ?_)
      | (with_reducible refine hcall.wr (fun _ => s4 ..) ?_)
      | (with_reducible refine hcall.wr0 (s4 ..) ?_)
      | (with_reducible refine hcall.det (fun _ => s5 ..) ?_)
      | (with_reducible refine hcall.wr (fun _ => s5 ..) ?_)
      | (with_reducible refine hcall.wr0 (s5 ..) ?_)
      | (with_reducible refine hcall.det (fun _ => s6 ..) ?_)
      | (with_reducible refine hcall.wr (fun _ => s6 ..) ?_)
      | (with_reducible refine hcall.wr0 (s6 ..) ?_)
      | (with_reducible refine hcall.det (fun _ => s7 ..) ?_)
      | (with_reducible refine hcall.wr (fun _ => s7 ..) ?_)
      | (with_reducible refine hcall.wr0 (s7 ..) ?_)
      | (with_reducible refine hcall.det (fun _ => s8 ..) ?_)
      | (with_reducible refine hcall.wr (fun _ => s8 ..) ?_)
      | (with_reducible refine hcall.wr0 (s8 ..) ?_)
      | (with_reducible refine hcall.det (fun _ => s9 ..) ?_)
      | (with_reducible refine hcall.wr (fun _ => s9 ..) ?_)
      | (with_reducible refine hcall.wr0 (s9 ..) ?_)
      | (with_reducible refine hcall.det (fun _ => s10 ..) ?_)
      | (with_reducible refine hcall.wr (fun _ => s10 ..) ?_)
      | (with_reducible refine hcall.wr0 (s10 ..) ?_)
      | (with_reducible refine hcall.det (fun _ => s11 ..) ?_)
      | (with_reducible refine hcall.wr (fun _ => s11 ..) ?_)
      | (with_reducible refine hcall.wr0 (s11 ..) ?_)
      | (with_reducible refine hcall.det (fun _ => s12 ..) ?_)
      | (with_reducible refine hcall.wr (fun _ => s12 ..) ?_)
      | (with_reducible refine hcall.wr0 (s12 ..) ?_)
      | (with_reducible refine hcall.det (fun _ => s13 ..) ?_)
      | (with_reducible refine hcall.wr (fun _ => s13 ..) ?_)
      | (with_reducible refine hcall.wr0 (s13 ..) ?_)
      | (with_reducible refine hcall.det (fun _ => s14 ..) ?_)
      | (with_reducible refine hcall.wr (fun _ => s14 ..) ?_)
      | (with_reducible refine hcall.wr0 (s14 ..) ?_)
      | (with_reducible refine hcall.det (fun _ => s15 ..) ?_)
      | (with_reducible refine hcall.wr (fun _ => s15 ..) ?_)
      | (with_reducible refine hcall.wr0 (s15 ..) ?_)
      | (with_reducible refine hcall.det (fun _ => s16 ..) ?_)
      | (with_reducible refine hcall.wr (fun _ => s16 ..) ?_)
      | (with_reducible refine hcall.wr0 (s16 ..) ?_)
      | (with_reducible refine hcall.det (fun _ => s17 ..) ?_)
      | (with_reducible refine hcall.wr (fun _ => s17 ..) ?_)
      | (with_reducible refine hcall.wr0 (s17 ..) ?_)
      | (with_reducible refine hcall.det (fun _ => s18 ..) ?_)
      | (with_reducible refine hcall.wr (fun _ => s18 ..) ?_)
      | (with_reducible refine hcall.wr0 (s18 ..) ?_)
      | (with_reducible refine hcall.det (fun _ => s19 ..) ?_)
      | (with_reducible refine hcall.wr (fun _ => s19 ..) ?_)
      | (with_reducible refine hcall.wr0 (s19 ..) ?_)); try simp (disch := omega) only [go_sem, Nat.reduceBEq, Nat.reduceLT, Nat.reduceEqDiff, reduceIte, Nat.reduceAdd, Nat.reduceMul, Nat.reduceSub, Nat.reduceLeDiff, Int.reduceToNat, Int.reducePow, Int.reduceLT, Int.reduceEq, Int.reduceBEq, Int.reduceNeg, Nat.reducePow, List.reduceReplicate, Int.reduceLE, eq_self, Nat.le_refl, hF])
    | (with_reducible refine acall.em0 ?_)
    | (with_reducible refine acall.em1 ?_)
    | (with_reducible refine qcall.em0 ?_)
    | (with_reducible refine qcall.em1 ?_)
    | ((first | (with_reducible refine acall.fz0 ?_) | (with_reducible refine acall.fz1 ?_)); simp (disch := omega) only [go_sem, Nat.reduceBEq, Nat.reduceLT, Nat.reduceEqDiff, reduceIte, Nat.reduceAdd, Nat.reduceMul, Nat.reduceSub, Nat.reduceLeDiff, Int.reduceToNat, Int.reducePow, Int.reduceLT, Int.reduceEq, Int.reduceBEq, Int.reduceNeg, Nat.reducePow, List.reduceReplicate, Int.reduceLE, eq_self, Nat.le_refl, hF]))
  exact hK.out) : G := h f s ⟨k⟩

theorem wkL {F S L G : Prop} (f : F) (s : S) (k : L) (h : F → S → Leaf L → G := by
  intro hF hS hK
  try obtain ⟨s0, hS⟩ := hS
  try obtain ⟨s1, hS⟩ := hS
  try obtain ⟨s2, hS⟩ := hS
  try obtain ⟨s3, hS⟩ := hS
  try obtain ⟨s4, hS⟩ := hS
  try obtain ⟨s5, hS⟩ := hS
  try obtain ⟨s6, hS⟩ := hS
  try obtain ⟨s7, hS⟩ := hS
  try obtain ⟨s8, hS⟩ := hS
  try obtain ⟨s9, hS⟩ := hS
  try obtain ⟨s10, hS⟩ := hS
  try obtain ⟨s11, hS⟩ := hS
  try obtain ⟨s12, hS⟩ := hS
  try obtain ⟨s13, hS⟩ := hS
  try obtain ⟨s14, hS⟩ := hS
  try obtain ⟨s15, hS⟩ := hS
  try obtain ⟨s16, hS⟩ := hS
  try obtain ⟨s17, hS⟩ := hS
  try obtain ⟨s18, hS⟩ := hS
  try obtain ⟨s19, hS⟩ := hS
  try simp only [number]
  try simp only [AExit.then, AExit.inBlock, AExit.noGoto, reduceIte, Nat.reduceEqDiff]
  repeat' (first
    | (with_reducible refine aops.step fun T hT => ?_; simp (disch := omega) only [go_sem, Nat.reduceBEq, Nat.reduceLT, Nat.reduceEqDiff, reduceIte, Nat.reduceAdd, Nat.reduceMul, Nat.reduceSub, Nat.reduceLeDiff, Int.reduceToNat, Int.reducePow, Int.reduceLT, Int.reduceEq, Int.reduceBEq, Int.reduceNeg, Nat.reducePow, List.reduceReplicate, Int.reduceLE, eq_self, Nat.le_refl, List.length_append, List.set_set, Int.natCast_add, Int.natCast_one, List.drop_zero, hF])
    | (with_reducible refine hT _ ?_; clear hT T)
    | (with_reducible refine aops.nil ?_)
    | (with_reducible refine qops.step fun T hT => ?_; simp (disch := omega) only [go_sem, Nat.reduceBEq, Nat.reduceLT, Nat.reduceEqDiff, reduceIte, Nat.reduceAdd, Nat.reduceMul, Nat.reduceSub, Nat.reduceLeDiff, Int.reduceToNat, Int.reducePow, Int.reduceLT, Int.reduceEq, Int.reduceBEq, Int.reduceNeg, Nat.reducePow, List.reduceReplicate, Int.reduceLE, eq_self, Nat.le_refl, List.length_append, List.set_set, Int.natCast_add, Int.natCast_one, List.drop_zero, hF])
    | (with_reducible refine qops.nil ?_)
    | (with_reducible refine hops.step fun T hT => ?_; simp (disch := omega) only [hone, hskip, patch, hole, List.headD_cons, List.tail_cons, Prod.mk.injEq, eq_self, and_assoc, exists_and_left, List.append_cancel_left_eq, List.cons.injEq, go_sem, Nat.reduceBEq, Nat.reduceLT, Nat.reduceEqDiff, reduceIte, Nat.reduceAdd, Nat.reduceMul, Nat.reduceSub, Nat.reduceLeDiff, Int.reduceToNat, Int.reducePow, Int.reduceLT, Int.reduceEq, Int.reduceBEq, Int.reduceNeg, Nat.reducePow, List.reduceReplicate, Int.reduceLE, eq_self, Nat.le_refl, List.length_append, List.set_set, Int.natCast_add, Int.natCast_one, List.drop_zero, hF])
    | (with_reducible refine hops.nil ?_)
    | (with_reducible refine hT _ _ ?_; clear hT T)
    | (with_reducible refine SOps.ownBo (by first | exact s0 | exact s1 | exact s2 | exact s3 | exact s4 | exact s5 | exact s6 | exact s7 | exact s8 | exact s9 | exact s10 | exact s11 | exact s12 | exact s13 | exact s14 | exact s15 | exact s16 | exact s17 | exact s18 | exact s19) fun T hT => ?_; simp (disch := omega) only [go_sem, Nat.reduceBEq, Nat.reduceLT, Nat.reduceEqDiff, reduceIte, Nat.reduceAdd, Nat.reduceMul, Nat.reduceSub, Nat.reduceLeDiff, Int.reduceToNat, Int.reducePow, Int.reduceLT, Int.reduceEq, Int.reduceBEq, Int.reduceNeg, Nat.reducePow, List.reduceReplicate, Int.reduceLE, eq_self, Nat.le_refl, List.length_append, List.set_set, Int.natCast_add, Int.natCast_one, List.drop_zero, hF])
    | (with_reducible refine SOps.ownGo (by first | exact s0 | exact s1 | exact s2 | exact s3 | exact s4 | exact s5 | exact s6 | exact s7 | exact s8 | exact s9 | exact s10 | exact s11 | exact s12 | exact s13 | exact s14 | exact s15 | exact s16 | exact s17 | exact s18 | exact s19) fun T hT => ?_; simp (disch := omega) only [go_sem, Nat.reduceBEq, Nat.reduceLT, Nat.reduceEqDiff, reduceIte, Nat.reduceAdd, Nat.reduceMul, Nat.reduceSub, Nat.reduceLeDiff, Int.reduceToNat, Int.reducePow, Int.reduceLT, Int.reduceEq, Int.reduceBEq, Int.reduceNeg, Nat.reducePow, List.reduceReplicate, Int.reduceLE, eq_self, Nat.le_refl, List.length_append, List.set_set, Int.natCast_add, Int.natCast_one, List.drop_zero, hF])
    | (with_reducible refine SOps.map2 fun T hT => ?_; simp (disch := omega) only [go_sem, Nat.reduceBEq, Nat.reduceLT, Nat.reduceEqDiff, reduceIte, Nat.reduceAdd, Nat.reduceMul, Nat.reduceSub, Nat.reduceLeDiff, Int.reduceToNat, Int.reducePow, Int.reduceLT, Int.reduceEq, Int.reduceBEq, Int.reduceNeg, Nat.reducePow, List.reduceReplicate, Int.reduceLE, eq_self, Nat.le_refl, List.length_append, List.set_set, Int.natCast_add, Int.natCast_one, List.drop_zero, hF])
    | (with_reducible refine SOps.own fun T hT => ?_; simp (disch := omega) only [go_sem, Nat.reduceBEq, Nat.reduceLT, Nat.reduceEqDiff, reduceIte, Nat.reduceAdd, Nat.reduceMul, Nat.reduceSub, Nat.reduceLeDiff, Int.reduceToNat, Int.reducePow, Int.reduceLT, Int.reduceEq, Int.reduceBEq, Int.reduceNeg, Nat.reducePow, List.reduceReplicate, Int.reduceLE, eq_self, Nat.le_refl, List.length_append, List.set_set, Int.natCast_add, Int.natCast_one, List.drop_zero, hF])
    | (with_reducible refine SOps.step fun T hT => ?_; simp (disch := omega) only [go_sem, Nat.reduceBEq, Nat.reduceLT, Nat.reduceEqDiff, reduceIte, Nat.reduceAdd, Nat.reduceMul, Nat.reduceSub, Nat.reduceLeDiff, Int.reduceToNat, Int.reducePow, Int.reduceLT, Int.reduceEq, Int.reduceBEq, Int.reduceNeg, Nat.reducePow, List.reduceReplicate, Int.reduceLE, eq_self, Nat.le_refl, List.length_append, List.set_set, Int.natCast_add, Int.natCast_one, List.drop_zero, hF])
    | (with_reducible refine SOps.nil ?_)
    | (with_reducible refine AWP.seq ?_)
    | (with_reducible refine AWP.block ?_)
    | (refine AWP.cond rfl (fun h => ?_) (fun h => ?_) <;> (try simp only [decide_eq_true_eq, decide_eq_false_iff_not, Bool.true_eq_false, Bool.false_eq_true] at h) <;> (try contradiction))
    | (refine AWP.region_o (by first | exact s0 | exact s1 | exact s2 | exact s3 | exact s4 | exact s5 | exact s6 | exact s7 | exact s8 | exact s9 | exact s10 | exact s11 | exact s12 | exact s13 | exact s14 | exact s15 | exact s16 | exact s17 | exact s18 | exact s19) fun Q' hQ' => ?_)
    | (refine AWP.drawH_o (by first | exact s0 | exact s1 | exact s2 | exact s3 | exact s4 | exact s5 | exact s6 | exact s7 | exact s8 | exact s9 | exact s10 | exact s11 | exact s12 | exact s13 | exact s14 | exact s15 | exact s16 | exact s17 | exact s18 | exact s19) rfl (by decide +kernel) fun Q' hQ' => ?_)
    | (refine AWP.drawH0_o (by first | exact s0 | exact s1 | exact s2 | exact s3 | exact s4 | exact s5 | exact s6 | exact s7 | exact s8 | exact s9 | exact s10 | exact s11 | exact s12 | exact s13 | exact s14 | exact s15 | exact s16 | exact s17 | exact s18 | exact s19) rfl (by decide +kernel) fun Q' hQ' => ?_)
    | (refine AWP.region_k fun Q' hQ' => ?_)
    | (refine AWP.drawT_o (by first | exact s0 | exact s1 | exact s2 | exact s3 | exact s4 | exact s5 | exact s6 | exact s7 | exact s8 | exact s9 | exact s10 | exact s11 | exact s12 | exact s13 | exact s14 | exact s15 | exact s16 | exact s17 | exact s18 | exact s19) rfl (by decide +kernel) fun Q' hQ' => ?_; try simp only [List.length_cons, List.length_nil, Nat.reduceAdd, Nat.reduceSub, List.take_succ_cons, List.take_zero, List.drop_succ_cons, List.drop_zero])
    | (refine AWP.drawTn_o (by first | exact s0 | exact s1 | exact s2 | exact s3 | exact s4 | exact s5 | exact s6 | exact s7 | exact s8 | exact s9 | exact s10 | exact s11 | exact s12 | exact s13 | exact s14 | exact s15 | exact s16 | exact s17 | exact s18 | exact s19) rfl (by decide +kernel) fun Q' hQ' => ?_; try simp only [List.length_cons, List.length_nil, Nat.reduceAdd, Nat.reduceSub, List.take_succ_cons, List.take_zero, List.drop_succ_cons, List.drop_zero])
    | (refine AWP.draw_o (by first | exact s0 | exact s1 | exact s2 | exact s3 | exact s4 | exact s5 | exact s6 | exact s7 | exact s8 | exact s9 | exact s10 | exact s11 | exact s12 | exact s13 | exact s14 | exact s15 | exact s16 | exact s17 | exact s18 | exact s19) rfl (by kernel_rfl) fun Q' hQ' => ?_)
    | (with_reducible refine AWP.skip ?_; try simp only [AExit.then, AExit.inBlock, AExit.noGoto, reduceIte, Nat.reduceEqDiff])
    | (with_reducible refine AWP.exit ?_; try simp only [AExit.then, AExit.inBlock, AExit.noGoto, reduceIte, Nat.reduceEqDiff])
    | (with_reducible refine AWP.ret ?_; try simp only [AExit.then, AExit.inBlock, AExit.noGoto, reduceIte, Nat.reduceEqDiff])
    | (with_reducible refine AWP.scope ?_)
    | (with_reducible refine AWP.label ?_; try simp only [AExit.then, AExit.inBlock, AExit.noGoto, reduceIte, Nat.reduceEqDiff])
    | (refine hQ' (AExit.panic _) _ ?_; clear hT T hQ' Q'; try simp only [AExit.then, AExit.inBlock, AExit.noGoto, reduceIte, Nat.reduceEqDiff])
    | (refine hQ' (AExit.panic _) _ ?_; clear hQ' Q'; try simp only [AExit.then, AExit.inBlock, AExit.noGoto, reduceIte, Nat.reduceEqDiff])
    | (refine hQ' _ _ ?_; clear hQ' Q'; try simp only [AExit.then, AExit.inBlock, AExit.noGoto, reduceIte, Nat.reduceEqDiff])
    | (refine hQ' _ ?_; clear hQ' Q'; try simp only [AExit.then, AExit.inBlock, AExit.noGoto, reduceIte, Nat.reduceEqDiff])
    | (with_reducible refine Branch.split (fun h => ?_) (fun h => ?_) <;> (try simp only [decide_eq_true_eq, decide_eq_false_iff_not, Bool.not_true, Bool.not_false, Bool.true_eq_false, Bool.false_eq_true] at h) <;> (try contradiction) <;> (simp (disch := omega) only [go_sem, Nat.reduceBEq, Nat.reduceLT, Nat.reduceEqDiff, reduceIte, Nat.reduceAdd, Nat.reduceMul, Nat.reduceSub, Nat.reduceLeDiff, Int.reduceToNat, Int.reducePow, Int.reduceLT, Int.reduceEq, Int.reduceBEq, Int.reduceNeg, Nat.reducePow, List.reduceReplicate, Int.reduceLE, eq_self, Nat.le_refl, List.length_append, List.set_set, Int.natCast_add, Int.natCast_one, List.drop_zero, h, hF]))
    | (with_reducible intro h; try simp only [h, go_sem, Nat.reduceBEq, Nat.reduceLT, Nat.reduceEqDiff, reduceIte, Nat.reduceAdd, Nat.reduceMul, Nat.reduceSub, Nat.reduceLeDiff, Int.reduceToNat, Int.reducePow, Int.reduceLT, Int.reduceEq, Int.reduceBEq, Int.reduceNeg, Nat.reducePow, List.reduceReplicate, Int.reduceLE, eq_self, Nat.le_refl, List.length_append, List.set_set, Int.natCast_add, Int.natCast_one, List.drop_zero, hF])
    | ((first
      | (with_reducible refine acall.det (s0 ..) ?_)
      | (with_reducible refine acall.det (s1 ..) ?_)
      | (with_reducible refine acall.det (s2 ..) ?_)
      | (with_reducible refine acall.det (s3 ..) ?_)
      | (with_reducible refine acall.det (s4 ..) ?_)
      | (with_reducible refine acall.det (s5 ..) ?_)
      | (with_reducible refine acall.det (s6 ..) ?_)
      | (with_reducible refine acall.det (s7 ..) ?_)
      | (with_reducible refine acall.det (s8 ..) ?_)
      | (with_reducible refine acall.det (s9 ..) ?_)
      | (with_reducible refine acall.det (s10 ..) ?_)
      | (with_reducible refine acall.det (s11 ..) ?_)
      | (with_reducible refine acall.det (s12 ..) ?_)
      | (with_reducible refine acall.det (s13 ..) ?_)
      | (with_reducible refine acall.det (s14 ..) ?_)
      | (with_reducible refine acall.det (s15 ..) ?_)
      | (with_reducible refine acall.det (s16 ..) ?_)
      | (with_reducible refine acall.det (s17 ..) ?_)
      | (with_reducible refine acall.det (s18 ..) ?_)
      | (with_reducible refine acall.det (s19 ..) ?_)
      | (with_reducible refine qcall.det (s0 ..) ?_)
      | (with_reducible refine qcall.det (s1 ..) ?_)
      | (with_reducible refine qcall.det (s2 ..) ?_)
      | (with_reducible refine qcall.det (s3 ..) ?_)
      | (with_reducible refine qcall.det (s4 ..) ?_)
      | (with_reducible refine qcall.det (s5 ..) ?_)
      | (with_reducible refine qcall.det (s6 ..) ?_)
      | (with_reducible refine qcall.det (s7 ..) ?_)
      | (with_reducible refine qcall.det (s8 ..) ?_)
      | (with_reducible refine qcall.det (s9 ..) ?_)
      | (with_reducible refine qcall.det (s10 ..) ?_)
      | (with_reducible refine qcall.det (s11 ..) ?_)
      | (with_reducible refine qcall.det (s12 ..) ?_)
      | (with_reducible refine qcall.det (s13 ..) ?_)
      | (with_reducible refine qcall.det (s14 ..) ?_)
      | (with_reducible refine qcall.det (s15 ..) ?_)
      | (with_reducible refine qcall.det (s16 ..) ?_)
      | (with_reducible refine qcall.det (s17 ..) ?_)
      | (with_reducible refine qcall.det (s18 ..) ?_)
      | (with_reducible refine qcall.det (s19 ..) ?_)
      | (with_reducible refine hcall.det (fun _ => s0 ..) ?_)
      | (with_reducible refine hcall.wr (fun _ => s0 ..) ?_)
      | (with_reducible refine hcall.wr0 (s0 ..) ?_)
      | (with_reducible refine hcall.det (fun _ => s1 ..) ?_)
      | (with_reducible refine hcall.wr (fun _ => s1 ..) ?_)
      | (with_reducible refine hcall.wr0 (s1 ..) ?_)
      | (with_reducible refine hcall.det (fun _ => s2 ..) ?_)
      | (with_reducible refine hcall.wr (fun _ => s2 ..) ?_)
      | (with_reducible refine hcall.wr0 (s2 ..) ?_)
      | (with_reducible refine hcall.det (fun _ => s3 ..) ?_)
      | (with_reducible refine hcall.wr (fun _ => s3 ..) ?_)
      | (with_reducible refine hcall.wr0 (s3 ..) ?_)
      | (with_reducible refine hcall.det (fun _ => s4 ..) ?_)
      | (with_reducible refine hcall.wr (fun _ => s4 ..) ?_)
      | (with_reducible refine hcall.wr0 (s4 ..) ?_)
      | (with_reducible refine hcall.det (fun _ => s5 ..) ?_)
      | (with_reducible refine hcall.wr (fun _ => s5 ..) ?_)
      | (with_reducible refine hcall.wr0 (s5 ..) ?_)
      | (with_reducible refine hcall.det (fun _ => s6 ..) ?_)
      | (with_reducible refine hcall.wr (fun _ => s6 ..) ?_)
      | (with_reducible refine hcall.wr0 (s6 ..) ?_)
      | (with_reducible refine hcall.det (fun _ => s7 ..) ?_)
      | (with_reducible refine hcall.wr (fun _ => s7 ..) ?_)
      | (with_reducible refine hcall.wr0 (s7 ..) ?_)
      | (with_reducible refine hcall.det (fun _ => s8 ..) ?_)
      | (with_reducible refine hcall.wr (fun _ => s8 ..) ?_)
      | (with_reducible refine hcall.wr0 (s8 ..) ?_)
      | (with_reducible refine hcall.det (fun _ => s9 ..) ?_)
      | (with_reducible refine hcall.wr (fun _ => s9 ..) ?_)
      | (with_reducible refine hcall.wr0 (s9 ..) ?_)
      | (with_reducible refine hcall.det (fun _ => s10 ..) ?_)
      | (with_reducible refine hcall.wr (fun _ => s10 ..) ?_)
      | (with_reducible refine hcall.wr0 (s10 ..) ?_)
      | (with_reducible refine hcall.det (fun _ => s11 ..) ?_)
      | (with_reducible refine hcall.wr (fun _ => s11 ..) ?_)
      | (with_reducible refine hcall.wr0 (s11 ..) ?_)
      | (with_reducible refine hcall.det (fun _ => s12 ..) ?_)
      | (with_reducible refine hcall.wr (fun _ => s12 ..) ?_)
      | (with_reducible refine hcall.wr0 (s12 ..) ?_)
      | (with_reducible refine hcall.det (fun _ => s13 ..) ?_)
      | (with_reducible refine hcall.wr (fun _ => s13 ..) ?_)
      | (with_reducible refine hcall.wr0 (s13 ..) ?_)
      | (with_reducible refine hcall.det (fun _ => s14 ..) ?_)
      | (with_reducible refine hcall.wr (fun _ => s14 ..) ?_)
      | (with_reducible refine hcall.wr0 (s14 ..) ?_)
      | (with_reducible refine hcall.det (fun _ => s15 ..) ?_)
      | (with_reducible refine hcall.wr (fun _ => s15 ..) ?_)
      | (with_reducible refine hcall.wr0 (s15 ..) ?_)
      | (with_reducible refine hcall.det (fun _ => s16 ..) ?_)
      | (with_reducible refine hcall.wr (fun _ => s16 ..) ?_)
      | (with_reducible refine hcall.wr0 (s16 ..) ?_)
      | (with_reducible refine hcall.det (fun _ => s17 ..) ?_)
      | (with_reducible refine hcall.wr (fun _ => s17 ..) ?_)
      | (with_reducible refine hcall.wr0 (s17 ..) ?_)
      | (with_reducible refine hcall.det (fun _ => s18 ..) ?_)
      | (with_reducible refine hcall.wr (fun _ => s18 ..) ?_)
      | (with_reducible refine hcall.wr0 (s18 ..) ?_)
      | (with_reducible refine hcall.det (fun _ => s19 ..) ?_)
      | (with_reducible refine hcall.wr (fun _ => s19 ..) ?_)
      | (with_reducible refine hcall.wr0 (s19 ..) ?_)); try simp (disch := omega) only [go_sem, Nat.reduceBEq, Nat.reduceLT, Nat.reduceEqDiff, reduceIte, Nat.reduceAdd, Nat.reduceMul, Nat.reduceSub, Nat.reduceLeDiff, Int.reduceToNat, Int.reducePow, Int.reduceLT, Int.reduceEq, Int.reduceBEq, Int.reduceNeg, Nat.reducePow, List.reduceReplicate, Int.reduceLE, eq_self, Nat.le_refl, List.length_append, List.set_set, Int.natCast_add, Int.natCast_one, List.drop_zero, hF]))
  exact hK.out) : G := h f s ⟨k⟩

/-- A walk's end. -/
theorem wkEnd {F L G : Prop} (f : F) (k : L) (h : F → Leaf L → G := by
  intro hF hK
  simp (disch := omega) only [bodyQ, go_sem, Nat.reduceBEq, Nat.reduceLT, Nat.reduceEqDiff, reduceIte, Nat.reduceAdd, Nat.reduceMul, Nat.reduceSub, Nat.reduceLeDiff, Int.reduceToNat, Int.reducePow, Int.reduceLT, Int.reduceEq, Int.reduceBEq, Int.reduceNeg, Nat.reducePow, List.reduceReplicate, Int.reduceLE, hF]
  exact hK.out) : G := h f ⟨k⟩
/-- What is kept at a round's end. -/
theorem Coe.kp {E : Ent} {l l' : List (Nat × AV)} {H : List Box} (h : Keeps l l' := by
  simp (disch := omega) only [Keeps, List.mem_cons, List.not_mem_nil, or_false, forall_eq_or_imp, forall_eq, List.length_append, Int.natCast_add, Int.natCast_one, Int.add_sub_cancel, Int.reduceSub, Int.reduceAdd, go_sem, Nat.reduceBEq, Nat.reduceLT, Nat.reduceEqDiff, reduceIte, Nat.reduceAdd, Nat.reduceMul, Nat.reduceSub, Nat.reduceLeDiff, Int.reduceToNat, Int.reducePow, Int.reduceLT, Int.reduceEq, Int.reduceBEq, Int.reduceNeg, Nat.reducePow, List.reduceReplicate, Int.reduceLE]
  all_goals (repeat' (first | rfl | constructor))) : Coe E ⟨l, H⟩ ⟨l', H⟩ := Coe.keep h
theorem Coe.kpF {F : Prop} {E : Ent} {l l' : List (Nat × AV)} {H : List Box} (f : F) (h : F → Keeps l l' := by
  intro hF
  simp (disch := omega) only [Keeps, List.mem_cons, List.not_mem_nil, or_false, forall_eq_or_imp, forall_eq, List.length_append, Int.natCast_add, Int.natCast_one, Int.add_sub_cancel, Int.reduceSub, Int.reduceAdd, go_sem, Nat.reduceBEq, Nat.reduceLT, Nat.reduceEqDiff, reduceIte, Nat.reduceAdd, Nat.reduceMul, Nat.reduceSub, Nat.reduceLeDiff, Int.reduceToNat, Int.reducePow, Int.reduceLT, Int.reduceEq, Int.reduceBEq, Int.reduceNeg, Nat.reducePow, List.reduceReplicate, Int.reduceLE, hF]
  all_goals (repeat' (first | rfl | constructor))) : Coe E ⟨l, H⟩ ⟨l', H⟩ := Coe.keep (h f)
theorem Keeps.kp {F : Prop} {l l' : List (Nat × AV)} (f : F) (h : F → Keeps l l' := by
  intro hF
  simp (disch := omega) only [Keeps, List.mem_cons, List.not_mem_nil, or_false, forall_eq_or_imp, forall_eq, List.length_append, Int.natCast_add, Int.natCast_one, Int.add_sub_cancel, Int.reduceSub, Int.reduceAdd, go_sem, Nat.reduceBEq, Nat.reduceLT, Nat.reduceEqDiff, reduceIte, Nat.reduceAdd, Nat.reduceMul, Nat.reduceSub, Nat.reduceLeDiff, Int.reduceToNat, Int.reducePow, Int.reduceLT, Int.reduceEq, Int.reduceBEq, Int.reduceNeg, Nat.reducePow, List.reduceReplicate, Int.reduceLE, hF]
  all_goals (repeat' (first | rfl | constructor))) : Keeps l l' := h f
/-- A function's body, entered. -/
theorem ASpec.enter {P : Program} {f : FuncId} {fn : Func} {c : Code} {args : List AV} {H : List Box} {K : Out → List Box → Prop} {n : Nat} {rs : List ResultVar} (hf : P.funcs[f]? = some fn) (hb : fn.body = some c) (hen : enters P f) (hnt : fn.ntmps = n) (hrs : fn.results = rs.toArray)
    (h : ∀ (base : Nat) (w : World) (β : Pl) (hI : Inv base w H β), AWP P ⟨base, n, w, H, β, hI, []⟩ c (bodyQ P ⟨base, n, w, H, β, hI, []⟩ rs K) ⟨number 0 args, H⟩) (hn : args.length ≤ n := by simp) : ASpec P f args H K :=
  fun base => acall_body hf hb hen hnt hrs hn (h base)
end Go.Proofs.YtnlmdeeadldgmaaGreatDoor.VL

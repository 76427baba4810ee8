/- Layer 17: a packet's bytes. -/
import Derived.Test.YtkkhbmpcpilmfaaZCd
import Derived.Test.YtkkhbmpcpilmfaaZPktI
-- STEPWISE
-- WK
-- SCOPE
-- HWR
set_option linter.unusedVariables false
set_option linter.unusedSimpArgs false
set_option maxRecDepth 10000
namespace Go.Proofs.Ytkkhbmpcpilmfaa.VL
open Go Go.RowKit Go.Lib

theorem fin_bytesTup {E : Ent} {Hy : List Box} {b g n : Nat} {bs : List UInt8} {e : Value} {K : AV → List Box → Prop} (hpre : ∃ N, Hy = E.H ++ N) (hb : Hy[b]? = some ⟨bytesC bs, 0, g, true⟩) (hge : E.H.length ≤ b) (hn : n = bs.length)
    (h : K (.tup [vB bs, .v e]) E.H) : Fin E (.tup [.sl b g 0 n 1 false, .v e]) Hy K := by
  obtain ⟨N, rfl⟩ := hpre
  exact Fin.frozG (bx := ⟨bytesC bs, 0, g, true⟩) hb hge rfl (by rw [bytesC_length]; omega) (chunk_bytesC bs n hn) (fun w H β v hsw hr => rep_tup_sw (fun x hx => hsw x hx) hr) ((lt_bytes bs).cons_tup ((Lt.v _).cons_tup .nil_tup)) h
def bldV (x : List UInt8 × Int) : AV := .tup [if x.2 = 0 then vB x.1 else .emp, vi x.2]

theorem fill3_ge {p : Pk} (hp : POk p) (lim : Int) : 12 ≤ (fill3 p lim).1.length := by
  have hz : 12 ≤ (zerosB 12 ++ qsB p.q).length := by rw [List.length_append]; simp [zerosB]
  have h1 : (zerosB 12 ++ qsB p.q).length ≤ (fill1 p lim).1.length := (fillR_len p lim p.a _ hp.a).1
  have h2 : (fill1 p lim).1.length ≤ (fill2 p lim).1.length := by
    unfold fill2
    split
    · exact Nat.le_refl _
    · exact (fillR_len p lim p.u _ hp.u).1
  have h3 : (fill2 p lim).1.length ≤ (fill3 p lim).1.length := by
    unfold fill3
    split
    · exact Nat.le_refl _
    · exact (fillR_len p lim p.m _ hp.m).1
  omega
theorem pre_set {H N : List Box} {x y : Box} {b : Nat} (h : H.length ≤ b) : ∃ M, (H ++ N ++ [x]).set b y = H ++ M := ⟨(N ++ [x]).set (b - H.length) y, by rw [List.append_assoc, List.set_append_right _ _ h]⟩

set_option maxHeartbeats 8000000 in
theorem pktBuild_spec (p : Pk) (hp : PkL p) (lim : Int) (H : List Box) : ASpec Try.prog 10 [.agg (pkC p), vi lim] H (Gives (bldV (bldP p lim)) H) := by
  have hr := fun H => pktRight_spec p hp H
  cases hok : pOk p with
  | false =>
    have e : bldP p lim = ([], 1) := by unfold bldP; rw [if_pos hok]
    rw [e]
    rw [hok] at hr
    obtain ⟨id, fl, q, a, u, m⟩ := p
    refine ASpec.enter Try.func10 rfl (fun a w => Try.call10 a w) Try.ntmps10 Try.results10 fun base w β hI => ?_
    refine wk wT (wA hr wT) ?_
    refine wkEnd wT ?_
    exact Fin.cut ((Lt.emp).cons_tup ((Lt.v _).cons_tup .nil_tup)) ⟨rfl, rfl⟩
  | true =>
    rw [hok] at hr
    have hpo := pOk_len hok
    have hloop := fun E hE Q => qs_loop p lim hpo.q hpo.lq E hE Q _ rfl
    have hlists := fun Hx0 b0 g0 E hF hE Q => lists_loop p hpo lim Hx0 b0 g0 E hF hE Q _ rfl
    have hli := fun (N : List Box) => lists_spec p H.length 0 (H ++ (⟨pkC p, 0, 0, false⟩ :: N)) (bx := ⟨pkC p, 0, 0, false⟩) (by simp) rfl rfl
    have l0 := b0_len hpo
    have l3 := fill3_len hpo lim
    have hdl : (twoB (hdN p lim)).length = 12 := by rw [twoB_length]; rfl
    have htw : ∀ (Hx : List Box), ASpec Try.prog 30 [.emp, .lst 1 [[vi p.id], [vi (if (fill3 p lim).2.2 then ior .i64 p.fl 512 else p.fl)], [vi (p.q.length : Int)], [vi ((fill1 p lim).2.1 : Int)], [vi ((fill2 p lim).2.1 : Int)], [vi ((fill3 p lim).2.1 : Int)]]] Hx
        (fun o H' => o = .ret (.sl Hx.length 6 0 (twoB (hdN p lim)).length 1 false) ∧ H' = Hx ++ [⟨bytesC (twoB (hdN p lim)), 0, 6, true⟩]) := fun Hx => twoNil_spec (hdN p lim) (by simp [hdN]) Hx
    refine ASpec.enter Try.func10 rfl (fun a w => Try.call10 a w) Try.ntmps10 Try.results10 fun base w β hI => ?_
    refine wk wT (wA hr wT) ?_
    have hz : [AV.v (.int .u8 0), AV.v (.int .u8 0), AV.v (.int .u8 0), AV.v (.int .u8 0), AV.v (.int .u8 0), AV.v (.int .u8 0), AV.v (.int .u8 0), AV.v (.int .u8 0), AV.v (.int .u8 0), AV.v (.int .u8 0), AV.v (.int .u8 0), AV.v (.int .u8 0)] = bytesC (zerosB 12) := rfl
    rw [hz]
    refine AWP.coe (Coe.loose (t := 6) (l' := [(1, vi lim), (2, .ptr H.length 0 0), (6, .sl (H.length + 1) 0 0 12 1 false), (21, .lst 3 (qnG p.q)), (22, vi p.q.length), (23, vi 0)]) rfl ?_) (hloop ⟨base, 94, w, H, β, hI⟩ rfl _ ?_)
    · simp only [Keeps, List.mem_cons, List.not_mem_nil, or_false, forall_eq_or_imp, forall_eq]
      exact ⟨rfl, rfl, rfl, rfl, rfl, rfl⟩
    · intro k hk
      simp only [Keeps, List.mem_cons, List.not_mem_nil, or_false, forall_eq_or_imp, forall_eq] at hk
      obtain ⟨h1, h2, h6⟩ := hk
      by_cases hlim : lim < ((zerosB 12 ++ qsB p.q).length : Int)
      · have e : bldP p lim = ([], 4) := by unfold bldP; rw [if_neg (by rw [hok]; simp), if_pos hlim]
        rw [e]
        refine wk (wA h1 (wA h2 (wA h6 (wA hlim wT)))) wT ?_
        refine wkEnd wT ?_
        exact Fin.cut ((Lt.emp).cons_tup ((Lt.v _).cons_tup .nil_tup)) ⟨rfl, rfl⟩
      · have e : bldP p lim = (twoB (hdN p lim) ++ (fill3 p lim).1.drop 12, 0) := by unfold bldP; rw [if_neg (by rw [hok]; simp), if_neg hlim]
        rw [e]
        refine wk (wA h1 (wA h2 (wA h6 (wA hlim wT)))) (wA hli wT) ?_
        have hz12 : (zerosB 12).length = 12 := by simp [zerosB]
        have hF0 : FS H p (H ++ [⟨pkC p, 0, 0, false⟩, ⟨bytesC (zerosB 12 ++ qsB p.q), 0, p.q.length * 3, true⟩, ⟨[vi 0, vi 0, vi 0], 0, 0, false⟩]) (H.length + 1) (p.q.length * 3) (zerosB 12 ++ qsB p.q) [vi 0, vi 0, vi 0] :=
          ⟨⟨_, rfl⟩, by rw [List.getElem?_append_right (Nat.le_refl _)]; simp, by rw [List.getElem?_append_right (by omega)]; simp, by rw [List.getElem?_append_right (by omega)]; simp, by omega, by omega⟩
        refine AWP.coe ?_ (hlists _ (H.length + 1) (p.q.length * 3) ⟨base, 94, w, H, β, hI⟩ hF0 rfl _ ?_)
        · refine Coe.keep ?_
          simp (disch := omega) only [Keeps, List.mem_cons, List.not_mem_nil, or_false, forall_eq_or_imp, forall_eq, h1, h2, h6, go_sem, Nat.reduceBEq, Nat.reduceLT, Nat.reduceEqDiff, reduceIte, Nat.reduceAdd, Nat.reduceMul, Nat.reduceSub, Nat.reduceLeDiff, Int.reduceToNat, Int.reducePow, Int.reduceLT, Int.reduceEq, Int.reduceNeg, Nat.reducePow, List.reduceReplicate, Int.reduceLE]
        · intro k2 Hx b g hFS hk2
          simp only [Keeps, List.mem_cons, List.not_mem_nil, or_false, forall_eq_or_imp, forall_eq] at hk2
          obtain ⟨k_2, k_6, k_9, k_10⟩ := hk2
          have hpx := hFS.hp
          have hcx := hFS.hc
          have hbb := hFS.hb
          have hblt : b < Hx.length := (List.getElem?_eq_some_iff.1 hbb).1
          have hb' : ∀ N : List Box, (Hx ++ N)[b]? = some ⟨bytesC (fill3 p lim).1, 0, g, true⟩ := fun N => by rw [List.getElem?_append_left hblt]; exact hbb
          have hge12 : 12 ≤ (fill3 p lim).1.length := fill3_ge hpo lim
          have htw' := htw Hx
          generalize twoB (hdN p lim) = hd at *
          generalize (if (fill3 p lim).2.2 = true then ior .i64 p.fl 512 else p.fl) = flag at *
          refine wkE (wA k_2 (wA k_6 (wA k_9 (wA k_10 (wA hpx (wA hcx (wA hb' wT))))))) (wA htw' wT) ?_
          obtain ⟨N, hN⟩ := hFS.pre
          have hge := hFS.hge
          generalize (fill3 p lim).1 = acc at *
          have hch : chunk 1 hd.length (bytesC hd) = bytesG hd := chunk_bytesC hd _ rfl
          have hmin : min (bytesG hd).length acc.length = (bytesG hd).length := by rw [bytesG_length]; omega
          have hfl : flat (List.take (bytesG hd).length (bytesG hd)) = bytesC hd := by rw [List.take_length, flat_bytesG]
          have hsp : splice (bytesC acc) 0 (bytesC hd) = bytesC (hd ++ acc.drop 12) := by
            rw [splice_bytes _ _ _ (by omega), spl, List.take_zero, List.nil_append, Nat.zero_add, hdl]
          refine wkEnd wT ?_
          rw [hch, hmin, hfl, hsp]
          refine fin_bytesTup (bs := hd ++ acc.drop 12) (by rw [hN]; exact pre_set (by omega)) (List.getElem?_set_self (by rw [List.length_append]; omega)) (by omega) (by rw [List.length_append, List.length_drop]; omega) ⟨by simp [bldV], rfl⟩

end Go.Proofs.Ytkkhbmpcpilmfaa.VL

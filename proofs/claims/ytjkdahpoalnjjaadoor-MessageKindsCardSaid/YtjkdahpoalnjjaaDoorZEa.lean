/- Layer 4: entries, as plain values. -/
import Derived.Test.YtjkdahpoalnjjaaDoorZCd
import Derived.Test.YtjkdahpoalnjjaaDoorZCe
set_option linter.unusedVariables false
set_option linter.unusedSimpArgs false
namespace Go.Proofs.YtjkdahpoalnjjaaDoor.VL
open Go Go.RowKit Go.Lib

structure En where
  k : Int
  v : Int
  s : List UInt8
deriving DecidableEq
abbrev enC (x : En) : List AV := [vi x.k, vi x.v, vs x.s]
def enZ : En := ⟨0, 0, []⟩
abbrev enG (l : List En) : List (List AV) := l.map enC
@[go_sem] theorem enG_length (l : List En) : (enG l).length = l.length := by simp [enG]
@[go_sem] theorem enG_get (l : List En) (i : Nat) : (enG l)[i]? = (l[i]?).map enC := by simp [enG]
theorem lt_enC {n : Nat} (x : En) : Lt n (.agg (enC x)) := .agg _ fun i c hi => by
  rcases i with _ | _ | _ | i <;> simp at hi <;> subst hi <;> exact .v _
theorem lt_en {n : Nat} (l : List En) : Lt n (.lst 3 (enG l)) := .lst _ _ fun i j g c hi hj => by
  simp only [enG, List.getElem?_map] at hi
  obtain ⟨b, _, rfl⟩ := Option.map_eq_some_iff.1 hi
  rcases j with _ | _ | _ | j <;> simp at hj <;> subst hj <;> exact .v _

/-- A row's cells. -/
def enF (l : List En) : List AV := flat (enG l)
theorem enF_cons (x : En) (l : List En) : enF (x :: l) = enC x ++ enF l := by simp [enF, flat]
theorem enF_app (l m : List En) : enF (l ++ m) = enF l ++ enF m := by simp [enF, flat]
theorem enF_snoc (l : List En) (x : En) : enF l ++ [vi x.k, vi x.v, vs x.s] = enF (l ++ [x]) := by rw [enF_app, enF_cons]; simp [enF, flat]
@[go_sem] theorem enF_length : ∀ l : List En, (enF l).length = l.length * 3
  | [] => rfl
  | x :: l => by rw [enF_cons, List.length_append, enF_length l, show (x :: l).length = l.length + 1 from rfl]; show 3 + _ = _; omega
theorem chunk_enF : ∀ l : List En, chunk 3 l.length (enF l) = enG l
  | [] => rfl
  | x :: l => by
    have e : enF (x :: l) = enC x ++ enF l := enF_cons x l
    rw [List.length_cons, chunk, e]
    show enC x :: chunk 3 l.length (enF l) = _
    rw [chunk_enF l]
    rfl

/-- The entry of a key. -/
def getE (l : List En) (k : Int) : Option En := l.find? fun x => decide (x.k = k)
def getV (o : Option En) : AV := .tup [.agg (enC (o.getD enZ)), vb o.isSome]
/-- May an entry be? -/
def mayE (x : En) : Bool := decide (0 ≤ x.k) && (decide (x.k < 12) && (decide (1 ≤ x.v) && (decide (x.v ≤ 1099511627776) && decide (x.s.length ≤ 200))))
theorem mayE_iff {x : En} : mayE x = true ↔ 0 ≤ x.k ∧ x.k < 12 ∧ 1 ≤ x.v ∧ x.v ≤ 1099511627776 ∧ x.s.length ≤ 200 := by simp [mayE]
/-- May a table be, whose keys are above one? -/
def tabGo : Int → List En → Bool
  | _, [] => true
  | last, x :: l => decide (last < x.k) && (mayE x && tabGo x.k l)
def tabOk (l : List En) : Bool := tabGo (-1) l
theorem tabGo_drop {l : List En} {i : Nat} {x : En} (h : l[i]? = some x) (last : Int) : tabGo last (l.drop i) = (decide (last < x.k) && (mayE x && tabGo x.k (l.drop (i + 1)))) := by
  have hi := (List.getElem?_eq_some_iff.1 h).1
  rw [List.drop_eq_getElem_cons hi, tabGo, (List.getElem?_eq_some_iff.1 h).2]
theorem tabGo_may {last : Int} : ∀ {l : List En}, tabGo last l = true → ∀ x ∈ l, last < x.k ∧ mayE x = true
  | [], _, x, hx => by cases hx
  | y :: l, h, x, hx => by
    simp only [tabGo, Bool.and_eq_true, decide_eq_true_eq] at h
    rcases List.mem_cons.1 hx with rfl | hx
    · exact ⟨h.1, h.2.1⟩
    · have := tabGo_may h.2.2 x hx
      exact ⟨by omega, this.2⟩
theorem tabGo_len {last : Int} : ∀ {l : List En}, tabGo last l = true → -1 ≤ last → (l = [] ∨ (l.length : Int) + last ≤ 11)
  | [], _, _ => .inl rfl
  | y :: l, h, h0 => by
    simp only [tabGo, Bool.and_eq_true, decide_eq_true_eq] at h
    have hm := mayE_iff.1 h.2.1
    right
    rw [List.length_cons]
    rcases tabGo_len h.2.2 (by omega) with rfl | h3
    · simp; omega
    · omega
theorem tabOk_len {l : List En} (h : tabOk l = true) : l.length ≤ 12 := by
  rcases tabGo_len h (by omega) with rfl | h
  · simp
  · omega
theorem tabOk_may {l : List En} (h : tabOk l = true) : ∀ x ∈ l, mayE x = true := fun x hx => (tabGo_may h x hx).2
/-- How great a table is, reckoned as a machine does. -/
def grE : Int → List En → Int
  | n, [] => n
  | n, x :: l => if n ≤ 4000 then grE (IntKind.i64.wrap (n + x.s.length)) l else n
/-- An entry put in its place, as the document does it. -/
def putGo (x : En) : List En → Bool → List En
  | [], p => if p then [] else [x]
  | y :: l, p => (if p = false ∧ x.k ≤ y.k then [x] else []) ++ ((if y.k = x.k then [] else [y]) ++ putGo x l (p || decide (x.k ≤ y.k)))
theorem putGo_len (x : En) : ∀ (l : List En) (p : Bool), (putGo x l p).length ≤ l.length + 1
  | [], p => by cases p <;> simp [putGo]
  | y :: l, true => by
    have : ∀ l : List En, (putGo x l true).length ≤ l.length := by
      intro l
      induction l with
      | nil => simp [putGo]
      | cons y l ih =>
        simp only [putGo, Bool.true_or, List.length_append, List.length_cons]
        split <;> split <;> simp at * <;> omega
    exact Nat.le_succ_of_le (this _)
  | y :: l, false => by
    have ht : ∀ l : List En, (putGo x l true).length ≤ l.length := by
      intro l
      induction l with
      | nil => simp [putGo]
      | cons y l ih =>
        simp only [putGo, Bool.true_or, List.length_append, List.length_cons]
        split <;> split <;> simp at * <;> omega
    simp only [putGo, Bool.false_or, List.length_append, List.length_cons]
    by_cases h : x.k ≤ y.k
    · have := ht l
      rw [if_pos (by simp [h]), decide_eq_true h]
      split <;> simp <;> omega
    · have := putGo_len x l false
      rw [if_neg (by simp; omega), decide_eq_false h]
      split <;> simp <;> omega

end Go.Proofs.YtjkdahpoalnjjaaDoor.VL

/- The library's search in a row: []bellwether/api.Entry. -/
-- STEPWISE
-- WK
set_option linter.unusedVariables false
set_option linter.unusedSimpArgs false
set_option maxRecDepth 10000
namespace Go.Proofs.YtjkdahpoalnjjaaDoor.VL
open Go Go.RowKit Go.Lib

set_option maxHeartbeats 1000000 in
theorem ixFEn_spec (f : En → Bool) (fid : FuncId) (caps : List AV) (l : List En) (hl : l.length ≤ 9223372036854775807) (H : List Box) (hf : ∀ x, x ∈ l → ASpec Tryd.prog fid (.agg (enC x) :: caps) H (Gives (vb (f x)) H)) :
    ASpec Tryd.prog 103 [.lst 3 (enG l), .fn fid caps] H (Gives (vi (ixOf f l 0)) H) := by
  refine ASpec.enter Tryd.func103 rfl (fun a w => Tryd.call103 a w) Tryd.ntmps103 Tryd.results103 fun base w β hI => ?_
  refine wk wT (wA DrM.mk wT) ?_
  refine AWP.loop (ι := {i : Nat // i ≤ l.length ∧ ixOf f l 0 = ixOf f (l.drop i) i}) (fun p => ⟨[(0, .lst 3 (enG l)), (1, .fn fid caps), (7, vi l.length), (8, vi p.1)], H⟩) (fun p => l.length - p.1) ⟨0, Nat.zero_le _, by rw [List.drop_zero]⟩ ?_ ?_
  · dsimp only
    exact Coe.kp
  · rintro ⟨i, hi, he⟩
    dsimp only
    by_cases hc : (i : Int) < (l.length : Int)
    · have hg : l[i]? = some l[i] := List.getElem?_eq_getElem (by omega)
      have hs := hf l[i] (List.getElem_mem _)
      generalize l[i] = x at hg hs
      rw [ixOf_drop _ hg] at he
      by_cases hx : f x = true
      · rw [if_pos hx] at he
        rw [hx] at hs
        rw [he]
        obtain ⟨xk, xv, xs⟩ := x
        refine wk (wA hc (wA hg wT)) (wA hs (wA DrM.mk wT)) ?_
        refine wkEnd wT ?_
        exact Fin.same ⟨rfl, rfl⟩
      · rw [if_neg hx] at he
        rw [Bool.not_eq_true _ |>.mp hx] at hs
        obtain ⟨xk, xv, xs⟩ := x
        refine wk (wA hc (wA hg wT)) (wA hs (wA DrM.mk wT)) ?_
        refine ⟨⟨i + 1, by omega, he⟩, ?_, by dsimp only; omega⟩
        dsimp only
        exact Coe.kp
    · rw [List.drop_of_length_le (by omega)] at he
      rw [he]
      refine wk (wA hc wT) (wA DrM.mk wT) ?_
      refine wkEnd wT ?_
      exact Fin.same ⟨rfl, rfl⟩
theorem coFEn_spec (f : En → Bool) (fid : FuncId) (caps : List AV) (l : List En) (hl : l.length ≤ 9223372036854775807) (H : List Box) (hf : ∀ x, x ∈ l → ASpec Tryd.prog fid (.agg (enC x) :: caps) H (Gives (vb (f x)) H)) :
    ASpec Tryd.prog 92 [.lst 3 (enG l), .fn fid caps] H (Gives (vb (l.any f)) H) := by
  have hs := ixFEn_spec f fid caps l hl H hf
  have ha := ixOf_any f l 0
  clear hf
  generalize ixOf f l 0 = x at hs ha
  rw [← ha]
  refine ASpec.enter Tryd.func92 rfl (fun a w => Tryd.call92 a w) Tryd.ntmps92 Tryd.results92 fun base w β hI => ?_
  refine wk wT (wA hs (wA DrM.mk wT)) ?_
  refine wkEnd wT ?_
  exact Fin.same ⟨rfl, rfl⟩

end Go.Proofs.YtjkdahpoalnjjaaDoor.VL

/- Layers 5, 7, 8, 20: states, digests, deltas, talks, as plain values. -/
set_option linter.unusedVariables false
set_option linter.unusedSimpArgs false
namespace Go.Proofs.YtjkdahpoalnjjaaDoor.VL
open Go Go.RowKit Go.Lib

structure Dg where
  n : Int
  g : Int
  v : Int
deriving DecidableEq
abbrev dgC (x : Dg) : List AV := [vi x.n, vi x.g, vi x.v]
def dgZ : Dg := ⟨0, 0, 0⟩
abbrev dgG (l : List Dg) : List (List AV) := l.map dgC
@[go_sem] theorem dgG_length (l : List Dg) : (dgG l).length = l.length := by simp [dgG]
@[go_sem] theorem dgG_get (l : List Dg) (i : Nat) : (dgG l)[i]? = (l[i]?).map dgC := by simp [dgG]
theorem lt_dg {n : Nat} (l : List Dg) : Lt n (.lst 3 (dgG l)) := .lst _ _ fun i j g c hi hj => by
  simp only [dgG, List.getElem?_map] at hi
  obtain ⟨b, _, rfl⟩ := Option.map_eq_some_iff.1 hi
  rcases j with _ | _ | _ | j <;> simp at hj <;> subst hj <;> exact .v _
/-- May digests be, whose endpoints are above one? -/
def dgGo : Int → List Dg → Bool
  | _, [] => true
  | last, d :: l => decide (last < d.n) && (decide (d.n < 8) && (decide (1 ≤ d.g) && (decide (d.g ≤ 1099511627776) && (decide (0 ≤ d.v) && (decide (d.v ≤ 1099511627776) && dgGo d.n l)))))
def dgOk (l : List Dg) : Bool := dgGo (-1) l
theorem dgGo_drop {l : List Dg} {i : Nat} {d : Dg} (h : l[i]? = some d) (last : Int) : dgGo last (l.drop i) = (decide (last < d.n) && (decide (d.n < 8) && (decide (1 ≤ d.g) && (decide (d.g ≤ 1099511627776) && (decide (0 ≤ d.v) && (decide (d.v ≤ 1099511627776) && dgGo d.n (l.drop (i + 1)))))))) := by
  have hi := (List.getElem?_eq_some_iff.1 h).1
  rw [List.drop_eq_getElem_cons hi, dgGo, (List.getElem?_eq_some_iff.1 h).2]

/-- An endpoint's state. -/
structure St where
  g : Int
  b : Int
  a : List En
deriving DecidableEq
abbrev stC (s : St) : List AV := [vi s.g, vi s.b, .lst 3 (enG s.a)]
def stZ : St := ⟨0, 0, []⟩
def stOk (s : St) : Bool := decide (1 ≤ s.g) && (decide (s.g ≤ 1099511627776) && (decide (0 ≤ s.b) && (decide (s.b ≤ 1099511627776) && tabOk s.a)))
structure Dl where
  n : Int
  f : Int
  s : St
deriving DecidableEq
abbrev dlC (d : Dl) : List AV := [vi d.n, vi d.f, vi d.s.g, vi d.s.b, .lst 3 (enG d.s.a)]
abbrev dlG (l : List Dl) : List (List AV) := l.map dlC
@[go_sem] theorem dlG_length (l : List Dl) : (dlG l).length = l.length := by simp [dlG]
@[go_sem] theorem dlG_get (l : List Dl) (i : Nat) : (dlG l)[i]? = (l[i]?).map dlC := by simp [dlG]
theorem lt_dl {n : Nat} (l : List Dl) : Lt n (.lst 5 (dlG l)) := .lst _ _ fun i j g c hi hj => by
  simp only [dlG, List.getElem?_map] at hi
  obtain ⟨b, _, rfl⟩ := Option.map_eq_some_iff.1 hi
  rcases j with _ | _ | _ | _ | _ | j <;> simp at hj <;> subst hj <;> first | exact .v _ | exact lt_en _
/-- Are all entries above a version? -/
def aboveAll (f : Int) (l : List En) : Bool := l.all fun x => decide (f < x.v)
def mayD (d : Dl) : Bool := decide (0 ≤ d.n) && (decide (d.n < 8) && (decide (0 ≤ d.f) && (decide (d.f ≤ 1099511627776) && (stOk d.s && aboveAll d.f d.s.a))))
def dlGo : Int → List Dl → Bool
  | _, [] => true
  | last, d :: l => mayD d && (decide (last < d.n) && dlGo d.n l)
def dlOk (l : List Dl) : Bool := dlGo (-1) l
theorem dlGo_drop {l : List Dl} {i : Nat} {d : Dl} (h : l[i]? = some d) (last : Int) : dlGo last (l.drop i) = (mayD d && (decide (last < d.n) && dlGo d.n (l.drop (i + 1)))) := by
  have hi := (List.getElem?_eq_some_iff.1 h).1
  rw [List.drop_eq_getElem_cons hi, dlGo, (List.getElem?_eq_some_iff.1 h).2]

/-- A talk. -/
structure Tk where
  k : Int
  d : List Dg
  l : List Dl
abbrev tkC (t : Tk) : List AV := [vi t.k, .lst 3 (dgG t.d), .lst 5 (dlG t.l)]
def tkZ : Tk := ⟨0, [], []⟩
def knows (k : Int) : Bool := decide (k = 1 ∨ k = 2)
def tells (k : Int) : Bool := decide (k = 2 ∨ k = 3)
def tkOk (t : Tk) : Bool := decide (1 ≤ t.k) && (decide (t.k < 8) && ((knows t.k || t.d.isEmpty) && ((tells t.k || t.l.isEmpty) && (dgOk t.d && dlOk t.l))))

end Go.Proofs.YtjkdahpoalnjjaaDoor.VL

/- Layer 4: entries, as plain values. -/
import Derived.Test.YtnoekcdmaaakfaaDoorZVLIx
import Derived.Test.YtnoekcdmaaakfaaDoorZCe
set_option linter.unusedVariables false
set_option linter.unusedSimpArgs false
namespace Go.Proofs.YtnoekcdmaaakfaaDoor.VL
open Go Go.RowKit Go.Lib

structure En where
  k : Int
  v : Int
  s : List UInt8
deriving DecidableEq
abbrev enC (x : En) : List AV := [vi x.k, vi x.v, vs x.s]
def enZ : En := ⟨0, 0, []⟩
abbrev enG (l : List En) : List (List AV) := l.map enC
@[go_sem] theorem enG_length (l : List En) : (enG l).length = l.length := by simp [enG]
@[go_sem] theorem enG_get (l : List En) (i : Nat) : (enG l)[i]? = (l[i]?).map enC := by simp [enG]
theorem lt_enC {n : Nat} (x : En) : Lt n (.agg (enC x)) := .agg _ fun i c hi => by
  rcases i with _ | _ | _ | i <;> simp at hi <;> subst hi <;> exact .v _
theorem lt_en {n : Nat} (l : List En) : Lt n (.lst 3 (enG l)) := .lst _ _ fun i j g c hi hj => by
  simp only [enG, List.getElem?_map] at hi
  obtain ⟨b, _, rfl⟩ := Option.map_eq_some_iff.1 hi
  rcases j with _ | _ | _ | j <;> simp at hj <;> subst hj <;> exact .v _

/-- A row's cells. -/
def enF (l : List En) : List AV := flat (enG l)
theorem enF_cons (x : En) (l : List En) : enF (x :: l) = enC x ++ enF l := by simp [enF, flat]
theorem enF_app (l m : List En) : enF (l ++ m) = enF l ++ enF m := by simp [enF, flat]
theorem enF_snoc (l : List En) (x : En) : enF l ++ [vi x.k, vi x.v, vs x.s] = enF (l ++ [x]) := by rw [enF_app, enF_cons]; simp [enF, flat]
@[go_sem] theorem enF_length : ∀ l : List En, (enF l).length = l.length * 3
  | [] => rfl
  | x :: l => by rw [enF_cons, List.length_append, enF_length l, show (x :: l).length = l.length + 1 from rfl]; show 3 + _ = _; omega
theorem chunk_enF : ∀ l : List En, chunk 3 l.length (enF l) = enG l
  | [] => rfl
  | x :: l => by
    have e : enF (x :: l) = enC x ++ enF l := enF_cons x l
    rw [List.length_cons, chunk, e]
    show enC x :: chunk 3 l.length (enF l) = _
    rw [chunk_enF l]
    rfl

/-- The entry of a key. -/
def getE (l : List En) (k : Int) : Option En := l.find? fun x => decide (x.k = k)
def getV (o : Option En) : AV := .tup [.agg (enC (o.getD enZ)), vb o.isSome]
/-- May an entry be? -/
def mayE (x : En) : Bool := decide (0 ≤ x.k) && (decide (x.k < 12) && (decide (1 ≤ x.v) && (decide (x.v ≤ 1099511627776) && decide (x.s.length ≤ 200))))
theorem mayE_iff {x : En} : mayE x = true ↔ 0 ≤ x.k ∧ x.k < 12 ∧ 1 ≤ x.v ∧ x.v ≤ 1099511627776 ∧ x.s.length ≤ 200 := by simp [mayE]
/-- May a table be, whose keys are above one? -/
def tabGo : Int → List En → Bool
  | _, [] => true
  | last, x :: l => decide (last < x.k) && (mayE x && tabGo x.k l)
def tabOk (l : List En) : Bool := tabGo (-1) l
theorem tabGo_drop {l : List En} {i : Nat} {x : En} (h : l[i]? = some x) (last : Int) : tabGo last (l.drop i) = (decide (last < x.k) && (mayE x && tabGo x.k (l.drop (i + 1)))) := by
  have hi := (List.getElem?_eq_some_iff.1 h).1
  rw [List.drop_eq_getElem_cons hi, tabGo, (List.getElem?_eq_some_iff.1 h).2]
theorem tabGo_may {last : Int} : ∀ {l : List En}, tabGo last l = true → ∀ x ∈ l, last < x.k ∧ mayE x = true
  | [], _, x, hx => by cases hx
  | y :: l, h, x, hx => by
    simp only [tabGo, Bool.and_eq_true, decide_eq_true_eq] at h
    rcases List.mem_cons.1 hx with rfl | hx
    · exact ⟨h.1, h.2.1⟩
    · have := tabGo_may h.2.2 x hx
      exact ⟨by omega, this.2⟩
theorem tabGo_len {last : Int} : ∀ {l : List En}, tabGo last l = true → -1 ≤ last → (l = [] ∨ (l.length : Int) + last ≤ 11)
  | [], _, _ => .inl rfl
  | y :: l, h, h0 => by
    simp only [tabGo, Bool.and_eq_true, decide_eq_true_eq] at h
    have hm := mayE_iff.1 h.2.1
    right
    rw [List.length_cons]
    rcases tabGo_len h.2.2 (by omega) with rfl | h3
    · simp; omega
    · omega
theorem tabOk_len {l : List En} (h : tabOk l = true) : l.length ≤ 12 := by
  rcases tabGo_len h (by omega) with rfl | h
  · simp
  · omega
theorem tabOk_may {l : List En} (h : tabOk l = true) : ∀ x ∈ l, mayE x = true := fun x hx => (tabGo_may h x hx).2
/-- How great a table is, reckoned as a machine does. -/
def grE : Int → List En → Int
  | n, [] => n
  | n, x :: l => if n ≤ 4000 then grE (IntKind.i64.wrap (n + x.s.length)) l else n
/-- An entry put in its place, as the document does it. -/
def putGo (x : En) : List En → Bool → List En
  | [], p => if p then [] else [x]
  | y :: l, p => (if p = false ∧ x.k ≤ y.k then [x] else []) ++ ((if y.k = x.k then [] else [y]) ++ putGo x l (p || decide (x.k ≤ y.k)))
theorem putGo_len (x : En) : ∀ (l : List En) (p : Bool), (putGo x l p).length ≤ l.length + 1
  | [], p => by cases p <;> simp [putGo]
  | y :: l, true => by
    have : ∀ l : List En, (putGo x l true).length ≤ l.length := by
      intro l
      induction l with
      | nil => simp [putGo]
      | cons y l ih =>
        simp only [putGo, Bool.true_or, List.length_append, List.length_cons]
        split <;> split <;> simp at * <;> omega
    exact Nat.le_succ_of_le (this _)
  | y :: l, false => by
    have ht : ∀ l : List En, (putGo x l true).length ≤ l.length := by
      intro l
      induction l with
      | nil => simp [putGo]
      | cons y l ih =>
        simp only [putGo, Bool.true_or, List.length_append, List.length_cons]
        split <;> split <;> simp at * <;> omega
    simp only [putGo, Bool.false_or, List.length_append, List.length_cons]
    by_cases h : x.k ≤ y.k
    · have := ht l
      rw [if_pos (by simp [h]), decide_eq_true h]
      split <;> simp <;> omega
    · have := putGo_len x l false
      rw [if_neg (by simp; omega), decide_eq_false h]
      split <;> simp <;> omega

end Go.Proofs.YtnoekcdmaaakfaaDoor.VL

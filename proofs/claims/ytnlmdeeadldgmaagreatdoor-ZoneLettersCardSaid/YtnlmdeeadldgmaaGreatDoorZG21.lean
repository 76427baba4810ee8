/- Layers 5, 7, 8, 20: states, digests, deltas, talks, as plain values. -/
import Derived.Test.YtnlmdeeadldgmaaGreatDoorZG20
import Derived.Test.YtnlmdeeadldgmaaGreatDoorZG16
import Derived.Test.YtnlmdeeadldgmaaGreatDoorZVLWalk
import Derived.Lib.Bytealg
import Derived.Lib.Builder
import Derived.Test.YtnlmdeeadldgmaaGreatDoorZG17
import Derived.Lib.MakeNoZero
import Derived.Laws.IdiomCopy
import Derived.Shelf.RegionOpenPlain
set_option linter.unusedVariables false
set_option linter.unusedSimpArgs false
namespace Go.Proofs.YtnlmdeeadldgmaaGreatDoor.VL
open Go Go.RowKit Go.Lib

structure Dg where
  n : Int
  g : Int
  v : Int
deriving DecidableEq
abbrev dgC (x : Dg) : List AV := [vi x.n, vi x.g, vi x.v]
def dgZ : Dg := ⟨0, 0, 0⟩
abbrev dgG (l : List Dg) : List (List AV) := l.map dgC
@[go_sem] theorem dgG_length (l : List Dg) : (dgG l).length = l.length := by simp [dgG]
@[go_sem] theorem dgG_get (l : List Dg) (i : Nat) : (dgG l)[i]? = (l[i]?).map dgC := by simp [dgG]
theorem lt_dg {n : Nat} (l : List Dg) : Lt n (.lst 3 (dgG l)) := .lst _ _ fun i j g c hi hj => by
  simp only [dgG, List.getElem?_map] at hi
  obtain ⟨b, _, rfl⟩ := Option.map_eq_some_iff.1 hi
  rcases j with _ | _ | _ | j <;> simp at hj <;> subst hj <;> exact .v _
/-- May digests be, whose endpoints are above one? -/
def dgGo : Int → List Dg → Bool
  | _, [] => true
  | last, d :: l => decide (last < d.n) && (decide (d.n < 8) && (decide (1 ≤ d.g) && (decide (d.g ≤ 1099511627776) && (decide (0 ≤ d.v) && (decide (d.v ≤ 1099511627776) && dgGo d.n l)))))
def dgOk (l : List Dg) : Bool := dgGo (-1) l
theorem dgGo_drop {l : List Dg} {i : Nat} {d : Dg} (h : l[i]? = some d) (last : Int) : dgGo last (l.drop i) = (decide (last < d.n) && (decide (d.n < 8) && (decide (1 ≤ d.g) && (decide (d.g ≤ 1099511627776) && (decide (0 ≤ d.v) && (decide (d.v ≤ 1099511627776) && dgGo d.n (l.drop (i + 1)))))))) := by
  have hi := (List.getElem?_eq_some_iff.1 h).1
  rw [List.drop_eq_getElem_cons hi, dgGo, (List.getElem?_eq_some_iff.1 h).2]

/-- An endpoint's state. -/
structure St where
  g : Int
  b : Int
  a : List En
deriving DecidableEq
abbrev stC (s : St) : List AV := [vi s.g, vi s.b, .lst 3 (enG s.a)]
def stZ : St := ⟨0, 0, []⟩
def stOk (s : St) : Bool := decide (1 ≤ s.g) && (decide (s.g ≤ 1099511627776) && (decide (0 ≤ s.b) && (decide (s.b ≤ 1099511627776) && tabOk s.a)))
structure Dl where
  n : Int
  f : Int
  s : St
deriving DecidableEq
abbrev dlC (d : Dl) : List AV := [vi d.n, vi d.f, vi d.s.g, vi d.s.b, .lst 3 (enG d.s.a)]
abbrev dlG (l : List Dl) : List (List AV) := l.map dlC
@[go_sem] theorem dlG_length (l : List Dl) : (dlG l).length = l.length := by simp [dlG]
@[go_sem] theorem dlG_get (l : List Dl) (i : Nat) : (dlG l)[i]? = (l[i]?).map dlC := by simp [dlG]
theorem lt_dl {n : Nat} (l : List Dl) : Lt n (.lst 5 (dlG l)) := .lst _ _ fun i j g c hi hj => by
  simp only [dlG, List.getElem?_map] at hi
  obtain ⟨b, _, rfl⟩ := Option.map_eq_some_iff.1 hi
  rcases j with _ | _ | _ | _ | _ | j <;> simp at hj <;> subst hj <;> first | exact .v _ | exact lt_en _
/-- Are all entries above a version? -/
def aboveAll (f : Int) (l : List En) : Bool := l.all fun x => decide (f < x.v)
def mayD (d : Dl) : Bool := decide (0 ≤ d.n) && (decide (d.n < 8) && (decide (0 ≤ d.f) && (decide (d.f ≤ 1099511627776) && (stOk d.s && aboveAll d.f d.s.a))))
def dlGo : Int → List Dl → Bool
  | _, [] => true
  | last, d :: l => mayD d && (decide (last < d.n) && dlGo d.n l)
def dlOk (l : List Dl) : Bool := dlGo (-1) l
theorem dlGo_drop {l : List Dl} {i : Nat} {d : Dl} (h : l[i]? = some d) (last : Int) : dlGo last (l.drop i) = (mayD d && (decide (last < d.n) && dlGo d.n (l.drop (i + 1)))) := by
  have hi := (List.getElem?_eq_some_iff.1 h).1
  rw [List.drop_eq_getElem_cons hi, dlGo, (List.getElem?_eq_some_iff.1 h).2]

/-- A talk. -/
structure Tk where
  k : Int
  d : List Dg
  l : List Dl
abbrev tkC (t : Tk) : List AV := [vi t.k, .lst 3 (dgG t.d), .lst 5 (dlG t.l)]
def tkZ : Tk := ⟨0, [], []⟩
def knows (k : Int) : Bool := decide (k = 1 ∨ k = 2)
def tells (k : Int) : Bool := decide (k = 2 ∨ k = 3)
def tkOk (t : Tk) : Bool := decide (1 ≤ t.k) && (decide (t.k < 8) && ((knows t.k || t.d.isEmpty) && ((tells t.k || t.l.isEmpty) && (dgOk t.d && dlOk t.l))))

end Go.Proofs.YtnlmdeeadldgmaaGreatDoor.VL

/- Layer 16: names of the domain system, in plain lists of bytes. -/
set_option linter.unusedVariables false
set_option linter.unusedSimpArgs false
namespace Go.Proofs.YtnlmdeeadldgmaaGreatDoor.VL
open Go Go.RowKit Go.Lib

/-- The labels that a name has, by so many steps at most. -/
def labF : Nat → List UInt8 → Option (List (List UInt8))
  | 0, _ => none
  | _ + 1, [] => none
  | k + 1, c :: r => if c.toNat = 0 then (if r = [] then some [] else none) else if 63 < c.toNat ∨ r.length < c.toNat then none else (labF k (r.drop c.toNat)).map (r.take c.toNat :: ·)
def lab (s : List UInt8) : Option (List (List UInt8)) := if 255 < s.length then none else labF (s.length + 1) s
theorem labF_fuel : ∀ (k k' : Nat) (s : List UInt8), s.length < k → s.length < k' → labF k s = labF k' s := by
  intro k
  induction k with
  | zero => intro k' s h; omega
  | succ k ih =>
    intro k' s h h'
    obtain ⟨k'', rfl⟩ : ∃ m, k' = m + 1 := ⟨k' - 1, by omega⟩
    cases s with
    | nil => rfl
    | cons c r =>
      simp only [labF, List.length_cons] at h h' ⊢
      rw [ih k'' (r.drop c.toNat) (by rw [List.length_drop]; omega) (by rw [List.length_drop]; omega)]
/-- One label more. -/
def labS (s : List UInt8) : Option (List (List UInt8)) := labF (s.length + 1) s
theorem labS_nil : labS [] = none := rfl
theorem labS_zero {c : UInt8} {r : List UInt8} (h : c.toNat = 0) : labS (c :: r) = if r = [] then some [] else none := by
  unfold labS
  rw [labF, if_pos h]
theorem labS_bad {c : UInt8} {r : List UInt8} (h : ¬ c.toNat = 0) (h2 : 63 < c.toNat ∨ r.length < c.toNat) : labS (c :: r) = none := by
  unfold labS
  rw [labF, if_neg h, if_pos h2]
theorem labS_more {c : UInt8} {r : List UInt8} (h : ¬ c.toNat = 0) (h2 : ¬ (63 < c.toNat ∨ r.length < c.toNat)) : labS (c :: r) = (labS (r.drop c.toNat)).map (r.take c.toNat :: ·) := by
  unfold labS
  rw [labF, if_neg h, if_neg h2]
  congr 1
  exact labF_fuel _ _ _ (by rw [List.length_drop, List.length_cons]; omega) (by omega)
theorem lab_of {s : List UInt8} (h : ¬ 255 < s.length) : lab s = labS s := by rw [lab, if_neg h]; rfl
abbrev labV : Option (List (List UInt8)) → AV
  | some l => .tup [.lst 1 (strG l), vb true]
  | none => .tup [.dead, vb false]
abbrev labE : Option (List (List UInt8)) → AV
  | some l => .tup [.lst 1 (strG l), vb true]
  | none => .tup [.emp, vb false]
def lowU (c : UInt8) : UInt8 := if 65 ≤ c.toNat ∧ c.toNat ≤ 90 then UInt8.ofNat (c.toNat + 32) else c
def lowB (s : List UInt8) : List UInt8 := if (lab s).isSome then s.map lowU else s
def sameN (a b : List UInt8) : Bool := (lab a).isSome && ((lab b).isSome && decide (lowB a = lowB b))

end Go.Proofs.YtnlmdeeadldgmaaGreatDoor.VL

/- Library: places of a byte in a string, how often it stands there, whether it does; a string without its last byte. -/
-- STEPWISE
-- WK
set_option linter.unusedVariables false
set_option linter.unusedSimpArgs false
set_option maxRecDepth 100000
namespace Go.Proofs.YtnlmdeeadldgmaaGreatDoor.VL
open Go Go.RowKit Go.Lib

theorem aspec_extern {P : Program} {f : FuncId} {fn : Func} {e : Array Value → Sem Value} (hf : P.funcs[f]? = some fn) (h1 : (fn.name == "runtime.NumGoroutine") = false) (h2 : fn.body.isNone = true) (h3 : Extern.findNext fn = none) (he : Extern.find fn = some e) {args : List AV} {H : List Box} {K : Out → List Box → Prop}
    (h : ∀ base w β vs, Inv base w H β → Reps w H β args vs → ∃ v w' r H' β', (e vs).run P w = .ok v w' ∧ K (.ret r) H' ∧ Rep w' H' β' r v ∧ Inv base w' H' β' ∧ Stp base w H β w' H' β') : ASpec P f args H K := fun base w β vs hI hr => by
  obtain ⟨v, w', r, H', β', g1, g2, g3, g4, g5⟩ := h base w β vs hI hr
  exact .inr ⟨v, w', by rw [run_callFunc_extern hf h1 h2 h3 he, g1]; rfl, .ret r, H', β', g2, g3, g4, g5⟩
theorem reps_v2 {w : World} {H : List Box} {β : Pl} {x y : Value} {vs : Array Value} (h : Reps w H β [.v x, .v y] vs) : vs = #[x, y] := by
  obtain ⟨h1, h2⟩ := h
  match vs, h1 with
  | ⟨[a, b]⟩, _ =>
    have e1 := h2 0 _ a rfl rfl
    have e2 := h2 1 _ b rfl rfl
    cases e1
    cases e2
    rfl

theorem indexByteString_spec (s : List UInt8) (c : UInt8) (H : List Box) : ASpec Tryz.prog 198 [vs s, .v (.int .u8 c.toNat)] H (Gives (vi (indexByte s c)) H) :=
  aspec_extern Tryz.func198 (by kernel_rfl) (by kernel_rfl) (by kernel_rfl) (e := Extern.BytealgIndexByte.indexByte) (by kernel_rfl) fun base w β vs hI hr => by
    obtain rfl := reps_v2 hr
    refine ⟨_, w, _, H, β, run_indexByteString _ _ w, ⟨rfl, rfl⟩, ?_, hI, Stp.refl _ _ _⟩
    have : ((c.toNat : Int).toNat.toUInt8) = c := by simp
    rw [this]
    exact .v _

theorem indexByte_spec (s : List UInt8) (c : UInt8) (H : List Box) : ASpec Tryz.prog 197 [vs s, .v (.int .u8 c.toNat)] H (Gives (vi (indexByte s c)) H) := by
  have hc := fun H => indexByteString_spec s c H
  refine ASpec.enter Tryz.func197 rfl (fun a w => Tryz.call197 a w) Tryz.ntmps197 Tryz.results197 fun base w β hI => ?_
  refine wk wT (wA hc (wA DrM.mk wT)) ?_
  refine wkEnd wT ?_
  exact Fin.same ⟨rfl, rfl⟩
/-- Without a byte at its end. -/
def trimB (s : List UInt8) (c : UInt8) : List UInt8 := if s.drop (s.length - 1) = [c] then s.take (s.length - 1) else s
/-! ### Parts between bytes -/
def splitC (c : UInt8) : List UInt8 → List (List UInt8)
  | [] => [[]]
  | b :: r => if b = c then [] :: splitC c r else match splitC c r with
    | h :: t => (b :: h) :: t
    | [] => [[b]]
theorem splitC_none {c : UInt8} : ∀ {s : List UInt8}, s.count c = 0 → splitC c s = [s]
  | [], _ => rfl
  | b :: r, h => by
    rw [List.count_cons] at h
    have hb : ¬ b = c := fun e => by subst e; simp at h
    rw [splitC, if_neg hb, splitC_none (by omega)]
theorem splitC_some {c : UInt8} : ∀ {s : List UInt8}, 0 < s.count c → ∃ m : Nat, indexByte s c = m ∧ m < s.length ∧ splitC c s = s.take m :: splitC c (s.drop (m + 1)) ∧ (s.drop (m + 1)).count c + 1 = s.count c
  | [], h => by simp at h
  | b :: r, h => by
    by_cases hb : b = c
    · subst hb
      exact ⟨0, by simp [indexByte], by simp, by simp [splitC], by simp [List.count_cons]⟩
    · rw [List.count_cons] at h ⊢
      have hbc : (b == c) = false := by simp [hb]
      simp only [hbc, Bool.false_eq_true, if_false, Nat.add_zero] at h ⊢
      obtain ⟨m, h1, h2, h3, h4⟩ := splitC_some h
      refine ⟨m + 1, ?_, by simp; omega, ?_, by simpa using h4⟩
      · unfold indexByte
        rw [hbc, h1]
        simp only [Bool.false_eq_true, if_false]
        have : ((m : Int) == -1) = false := by rw [beq_eq_false_iff_ne]; omega
        rw [this]
        simp
      · rw [splitC, if_neg hb, h3]
        simp
theorem count_le (s : List UInt8) (c : UInt8) : s.count c ≤ s.length := List.count_le_length

end Go.Proofs.YtnlmdeeadldgmaaGreatDoor.VL

/- Library: a string's parts between bytes. -/
-- STEPWISE
-- WK
set_option linter.unusedVariables false
set_option linter.unusedSimpArgs false
set_option maxRecDepth 100000
namespace Go.Proofs.YtnlmdeeadldgmaaGreatDoor.VL
open Go Go.RowKit Go.Lib

@[go_sem] theorem flat_strs0 (n : Nat) : flat (List.replicate n [AV.v (.string ⟨#[]⟩)]) = strC (List.replicate n []) := by
  unfold flat strC
  induction n with
  | zero => rfl
  | succ n ih => rw [List.replicate_succ, List.replicate_succ, List.flatten_cons, ih]; rfl
@[go_sem] theorem strC_set (l : List (List UInt8)) (i : Nat) (s : List UInt8) : (strC l).set i (.v (.string ⟨s.toArray⟩)) = strC (l.set i s) := by
  unfold strC
  rw [List.map_set]

theorem fin_strs1 {E : Ent} {N : List Box} {k g n ro : Nat} {L : List (List UInt8)} {full gr : Bool} {K : AV → List Box → Prop} (hb : N[k]? = some ⟨strC L, ro, g, gr⟩) (hn : n = L.length)
    (h : K (.lst 1 (strG L)) E.H) : Fin E (.sl (E.H.length + k) g 0 n 1 full) (E.H ++ N) K :=
  Fin.frozG (bx := ⟨strC L, ro, g, gr⟩) (by rw [getH]; exact hb) (by omega) rfl (by dsimp only; rw [strC_length]; omega) (chunk_strC L n hn)
    (fun w H β v hsw hr => hsw v hr) (lt_str L) h

end Go.Proofs.YtnlmdeeadldgmaaGreatDoor.VL

/- Library: strings.Builder, places of a byte in a string, parts of a string between bytes. -/
-- STEPWISE
-- WK
-- TAIL
set_option linter.unusedVariables false
set_option linter.unusedSimpArgs false
set_option maxRecDepth 100000
namespace Go.Proofs.YtnlmdeeadldgmaaGreatDoor.VL
open Go Go.RowKit Go.Lib

set_option maxHeartbeats 1000000 in
theorem copyCheck_used (k : Nat) (w : World) (h0 : w.cell? ⟨k, 0, none⟩ = some (.pointer (some ⟨k, 0, none⟩))) :
    Calls Tryz.prog 147 #[.pointer (some ⟨k, 0, none⟩)] w fun e w' => e = .returned (.tuple #[]) ∧ w' = w := by
  obtain ⟨j, hj, _⟩ : ∃ j, Tryz.prog.info? 164 = some j ∧ j.size = 2 := ⟨_, rfl, rfl⟩
  go_enter Tryz.func147, Tryz.ntmps147
  go_wp2
  rw [Lib.run_neq_ptr_same w _ Tryz.underlying162 hj]
  go_wp2
  go_end0
  exact ⟨rfl, rfl⟩

set_option maxHeartbeats 1000000 in
theorem copyCheck_fresh (k : Nat) (w : World) (h0 : w.cell? ⟨k, 0, none⟩ = some (.pointer none)) (hsh : w.shape? k = some (164, 2)) (hfz : w.frozen? ⟨k, 0, none⟩ = false) :
    Calls Tryz.prog 147 #[.pointer (some ⟨k, 0, none⟩)] w fun e w' => e = .returned (.tuple #[]) ∧ w' = w.setCell ⟨k, 0, none⟩ (.pointer (some ⟨k, 0, none⟩)) := by
  obtain ⟨j, hj, hjs⟩ : ∃ j, Tryz.prog.info? 164 = some j ∧ j.size = 2 := ⟨_, rfl, rfl⟩
  go_enter Tryz.func147, Tryz.ntmps147
  go_wp2
  rw [Lib.run_to_unsafe w ⟨k, 0, none⟩ Tryz.underlying162 Tryz.underlying195 hj (by rw [hjs]; decide) hsh (Nat.zero_lt_succ 1)]
  simp only [Result.andThen]
  rw [Oper.upon_value]
  go_wp2
  rw [run_callFunc_extern Tryz.func161 (by kernel_rfl) (by kernel_rfl) (by kernel_rfl) (e := Extern.AbiNoEscape.same) (by kernel_rfl)]
  rw [Lib.run_noEscape]
  simp only [Result.andThen]
  rw [Oper.upon_value]
  go_wp2
  rw [Lib.run_from_unsafe w ⟨k, 0, none⟩ Tryz.underlying195 Tryz.underlying162 hj hsh (by kernel_rfl)]
  simp only [Result.andThen]
  rw [Oper.upon_value]
  go_wp2
  go_end0
  exact ⟨rfl, rfl⟩

theorem set_same' {α : Type} {l : List α} {i : Nat} {c : α} (h : l[i]? = some c) : l.set i c = l := by
  apply List.ext_getElem?
  intro k
  by_cases hk : k = i
  · subst hk; rw [List.getElem?_set_self (List.getElem?_eq_some_iff.1 h).1, h]
  · rw [List.getElem?_set_ne (Ne.symm hk)]

theorem copyCheck_spec (b : Nat) (y : AV) (H : List Box) (hb : H[b]? = some ⟨[.bself b 0 164, y], 0, 0, false⟩) : ASpec Tryz.prog 147 [.ptr b 0 0] H (Gives (.tup []) H) := fun base w β vs hI hr => by
  obtain ⟨x0, rfl⟩ : ∃ x0, vs = #[x0] := by
    have := hr.1
    match vs, this with
    | ⟨[x0]⟩, _ => exact ⟨x0, rfl⟩
  have h0 := hr.2 0 _ x0 rfl rfl
  obtain ⟨bx, k, s, e1, e2, e3, hv⟩ := live_ptr (by simp [live, hb]) h0
  rw [hb] at e1
  obtain rfl := Option.some.inj e1
  obtain ⟨x, c1, c2, c3⟩ := hI.cells b _ k s hb e3 0 _ rfl
  have hen := Tryz.call147 #[x0] w
  cases c3 with
  | bself _ _ _ _ bx' hb' hg hx hh =>
    rw [hb] at hb'
    obtain rfl := Option.some.inj hb'
    obtain ⟨k', c, fr, q1, q2, q3, q4⟩ := hh rfl
    rw [e3] at q1
    injection q1 with q1
    injection q1 with q5 q6
    subst q5; subst q6
    simp only [Nat.add_zero] at c1 hv
    subst hv
    rcases q2 with rfl | rfl
    · have hfz : w.frozen? ⟨k, 0, none⟩ = false := hI.free k 0 ⟨b, _, 0, hb, e3, Nat.le_refl _, .inr (by simp)⟩ ⟨_, c1⟩
      refine .inl ⟨hen, (copyCheck_fresh k w c1 (by simp [World.shape?, q3, q4]) hfz).mono ?_⟩
      rintro e w' ⟨rfl, rfl⟩
      have hst : w.setCell ⟨k, 0, none⟩ (.pointer (some ⟨k, 0, none⟩)) = stor w k 0 [.pointer (some ⟨k, 0, none⟩)] := rfl
      rw [hst]
      have hW := Wor.stor [.pointer (some ⟨k, 0, none⟩)] w k 0
      have hex : ∀ j, j < [Value.pointer (some ⟨k, 0, none⟩)].length → (w.cell? ⟨k, 0 + j, none⟩).isSome = true := fun j hj => by
        simp at hj; subst hj; rw [c1]; rfl
      obtain ⟨r1, r2⟩ := hI.real b _ k 0 hb e3
      obtain ⟨g1, g2⟩ := repl (bx' := ⟨[.bself b 0 164, y], 0, 0, false⟩) (k' := k) (s' := 0) hI hb hW (fun k' x => k' = k ∧ x = 0) (fun k' x ⟨a1, a2⟩ => by subst a1; subst a2; exact ⟨0, e3, Nat.le_refl _, .inr (by simp)⟩)
        (fun k' x hk hn => by rw [stor_cell _ w k 0 k' x hex, if_neg (by rintro ⟨a1, a2, a3⟩; simp at a3; exact hn ⟨a1, a3⟩)])
        ⟨r1, Nat.lt_of_lt_of_le r2 hW.size⟩ (Nat.zero_le _) (.inr ⟨0, e3, Nat.le_refl _, Nat.le_refl _, fun h => h, .inr (Nat.le_refl _)⟩) (Nat.le_refl _) (fun _ => e3) (fun h => by omega) (fun j c hj => by
          rw [stor_cell _ w k 0 k _ hex]
          rcases j with _ | j
          · simp at hj
            subst hj
            exact ⟨_, by rw [if_pos (by simp)]; rfl, rfl, .bself _ _ _ _ _ hb (Nat.le_refl _) ⟨_, rfl⟩ fun _ => ⟨k, _, _, e3, .inr rfl, q3, q4⟩⟩
          · rw [if_neg (by rintro ⟨_, _, a3⟩; simp at a3)]
            obtain ⟨z, d1, d2, d3⟩ := hI.cells b _ k 0 hb e3 (j + 1) c hj
            exact ⟨z, d1, d2, d3⟩)
      have hset : H.set b ⟨[.bself b 0 164, y], 0, 0, false⟩ = H := set_same' hb
      rw [hset] at g1 g2
      exact ⟨.ret (.tup []), H, _, ⟨rfl, rfl⟩, .tup [] #[] rfl (by simp), g1, g2⟩
    · refine .inl ⟨hen, (copyCheck_used k w c1).mono ?_⟩
      rintro e w' ⟨rfl, rfl⟩
      exact ⟨.ret (.tup []), H, β, ⟨rfl, rfl⟩, .tup [] #[] rfl (by simp), hI, Stp.refl _ _ _⟩

/-- A builder behind other boxes, that holds bytes. -/
abbrev bldB (n g : Nat) (bs : List UInt8) : List Box := [⟨[.bself n 0 164, .bs (n + 1) g bs.length 5], 0, 0, false⟩, ⟨bytesC bs, 0, g, true⟩]
abbrev bldH (H : List Box) (g : Nat) (bs : List UInt8) : List Box := H ++ bldB H.length g bs

set_option maxHeartbeats 1000000 in
theorem writeByte_spec (c : UInt8) (g : Nat) (bs : List UInt8) (hbs : bs.length ≤ 70368744177664) (H : List Box) :
    ASpec Tryz.prog 129 [.ptr H.length 0 0, .v (.int .u8 c.toNat)] (bldH H g bs) (Gives (.v .nilIface) (bldH H (g + 1) (bs ++ [c]))) := by
  have hc := fun y N => copyCheck_spec H.length y (H ++ (⟨[.bself H.length 0 164, y], 0, 0, false⟩ :: N)) (by simp)
  have e : bytesC bs ++ [.v (.int .u8 c.toNat)] = bytesC (bs ++ [c]) := by simp [bytesC]
  simp only [bldH, bldB, List.length_append, List.length_singleton]
  refine ASpec.enter Tryz.func129 rfl (fun a w => Tryz.call129 a w) Tryz.ntmps129 Tryz.results129 fun base w β hI => ?_
  refine wk wT (wA hc (wA TlM.mk (wA DrM.mk wT))) ?_
  refine wkEnd wT ?_
  rw [e]
  exact ⟨_, _, Shed.refl _ _ _, rfl, rfl⟩

set_option maxHeartbeats 1000000 in
theorem writeString_spec (s : List UInt8) (g : Nat) (bs : List UInt8) (hbs : bs.length ≤ 70368744177664) (hs : s.length ≤ 35184372088832) (H : List Box) :
    ASpec Tryz.prog 130 [.ptr H.length 0 0, vs s] (bldH H g bs) (Gives (.tup [vi s.length, .v .nilIface]) (bldH H (g + 1) (bs ++ s))) := by
  have hc := fun y N => copyCheck_spec H.length y (H ++ (⟨[.bself H.length 0 164, y], 0, 0, false⟩ :: N)) (by simp)
  simp only [bldH, bldB, List.length_append]
  refine ASpec.enter Tryz.func130 rfl (fun a w => Tryz.call130 a w) Tryz.ntmps130 Tryz.results130 fun base w β hI => ?_
  refine wk wT (wA hc (wA TlM.mk (wA DrM.mk wT))) ?_
  refine wkEnd wT ?_
  exact ⟨_, _, Shed.refl _ _ _, rfl, rfl⟩

theorem bldLen_spec (g : Nat) (bs : List UInt8) (hbs : bs.length ≤ 140737488355328) (H : List Box) :
    ASpec Tryz.prog 131 [.ptr H.length 0 0] (bldH H g bs) (Gives (vi bs.length) (bldH H g bs)) := by
  simp only [bldH, bldB]
  refine ASpec.enter Tryz.func131 rfl (fun a w => Tryz.call131 a w) Tryz.ntmps131 Tryz.results131 fun base w β hI => ?_
  refine wk wT (wA TlM.mk (wA DrM.mk wT)) ?_
  refine wkEnd wT ?_
  exact Fin.same ⟨rfl, rfl⟩

theorem bldString00_spec (g : Nat) (H : List Box) :
    ASpec Tryz.prog 132 [.ptr H.length 0 0] (bldH H g []) (Gives (vs []) (bldH H g [])) := by
  simp only [bldH, bldB]
  refine ASpec.enter Tryz.func132 rfl (fun a w => Tryz.call132 a w) Tryz.ntmps132 Tryz.results132 fun base w β hI => ?_
  refine wk wT (wA TlM.mk (wA DrM.mk wT)) ?_
  refine wkEnd wT ?_
  exact Fin.same ⟨rfl, rfl⟩
/-- A fresh one. -/
theorem bldString0_spec (H : List Box) :
    ASpec Tryz.prog 132 [.ptr H.length 0 0] (H ++ [⟨[.bself H.length 0 164, .v (.slice none 0 0)], 0, 0, false⟩]) (Gives (vs []) (H ++ [⟨[.bself H.length 0 164, .v (.slice none 0 0)], 0, 0, false⟩])) := by
  refine ASpec.enter Tryz.func132 rfl (fun a w => Tryz.call132 a w) Tryz.ntmps132 Tryz.results132 fun base w β hI => ?_
  refine wk wT (wA TlM.mk (wA DrM.mk wT)) ?_
  refine wkEnd wT ?_
  exact Fin.same ⟨rfl, rfl⟩


end Go.Proofs.YtnlmdeeadldgmaaGreatDoor.VL

/- Library: strings.Builder's text. -/
-- STEPWISE
-- WK
-- HOLE 1 0 [(.same, []), (.same, []), (.same, []), (.same, []), (.same, []), (.same, []), (.same, []), (.same, []), (.same, []), (.same, []), (.wr 1, []), (.same, [])]
set_option linter.unusedVariables false
set_option linter.unusedSimpArgs false
set_option maxRecDepth 100000
namespace Go.Proofs.YtnlmdeeadldgmaaGreatDoor.VL
open Go Go.RowKit Go.Lib

theorem holM_StrC_1 : HolM 1 0 [(.same, []), (.same, []), (.same, []), (.same, []), (.same, []), (.same, []), (.same, []), (.same, []), (.same, []), (.same, []), (.wr 1, []), (.same, [])] := ⟨⟩

set_option maxHeartbeats 1000000 in
theorem bldString1_spec (g : Nat) (bs : List UInt8) (h0 : ¬ bs.length = 0) (hbs : bs.length ≤ 140737488355328) (H : List Box) :
    ASpec Tryz.prog 132 [.ptr H.length 0 0] (bldH H g bs) (Gives (vs bs) (H ++ [⟨[.bself H.length 0 164, .bs (H.length + 1) g bs.length 5], 0, 0, false⟩, ⟨bytesC bs, bs.length, g, true⟩])) := by
  simp only [bldH, bldB]
  refine ASpec.enter Tryz.func132 rfl (fun a w => Tryz.call132 a w) Tryz.ntmps132 Tryz.results132 fun base w β hI => ?_
  refine wk (wA h0 wT) (wA holM_StrC_1 (wA DrM.mk wT)) ?_
  refine wkEnd wT ?_
  exact ⟨_, _, Shed.refl _ _ _, rfl, rfl⟩
theorem bldString_spec (g : Nat) (bs : List UInt8) (hbs : bs.length ≤ 140737488355328) (H : List Box) :
    ASpec Tryz.prog 132 [.ptr H.length 0 0] (bldH H g bs) (Gives (vs bs) (H ++ [⟨[.bself H.length 0 164, .bs (H.length + 1) g bs.length 5], 0, 0, false⟩, ⟨bytesC bs, bs.length, g, true⟩])) := by
  by_cases h0 : bs.length = 0
  · have : bs = [] := List.eq_nil_of_length_eq_zero h0
    subst this
    exact bldString00_spec g H
  · exact bldString1_spec g bs h0 hbs H

/-- A fresh builder as one that holds no bytes. -/
theorem Coe.bld {E : Ent} {l : List (Nat × AV)} : Coe E ⟨l, E.H ++ [⟨[.bself E.H.length 0 164, .v (.slice none 0 0)], 0, 0, false⟩]⟩ ⟨l, bldH E.H 0 []⟩ := fun a w ⟨β, hs⟩ => by
  obtain ⟨i1, i2⟩ := newv hs.inv 0 0 rfl
  have hlen : (E.H ++ [(⟨[.bself E.H.length 0 164, .v (.slice none 0 0)], 0, 0, false⟩ : Box)]).length = E.H.length + 1 := by simp
  dsimp only at i1 i2
  rw [hlen, List.append_assoc] at i1 i2
  have hb : (E.H ++ ([(⟨[.bself E.H.length 0 164, .v (.slice none 0 0)], 0, 0, false⟩ : Box)] ++ [(⟨[], 0, 0, true⟩ : Box)]))[E.H.length]? = some ⟨[.bself E.H.length 0 164, .v (.slice none 0 0)], 0, 0, false⟩ := by simp
  have hd : (E.H ++ ([(⟨[.bself E.H.length 0 164, .v (.slice none 0 0)], 0, 0, false⟩ : Box)] ++ [(⟨[], 0, 0, true⟩ : Box)]))[E.H.length + 1]? = some ⟨[], 0, 0, true⟩ := by simp
  have hset : (E.H ++ ([(⟨[.bself E.H.length 0 164, .v (.slice none 0 0)], 0, 0, false⟩ : Box)] ++ [(⟨[], 0, 0, true⟩ : Box)])).set E.H.length (⟨[.bself E.H.length 0 164, .bs (E.H.length + 1) 0 0 5], 0, 0, false⟩ : Box) = bldH E.H 0 [] := by
    rw [List.set_append_right _ _ (Nat.le_refl _), Nat.sub_self]; rfl
  cases hβ : updn β (E.H.length + 1) E.H.length with
  | none =>
    have := i1.virt _ _ hb hβ
    simp at this
  | some p =>
    obtain ⟨k, s⟩ := p
    obtain ⟨q1, q2⟩ := i1.real _ _ _ _ hb hβ
    have hcells := i1.cells _ _ _ _ hb hβ
    obtain ⟨g1, g2⟩ := repl (w' := w) (bx' := ⟨[.bself E.H.length 0 164, .bs (E.H.length + 1) 0 0 5], 0, 0, false⟩) (k' := k) (s' := s) i1 hb (Wor.refl _) (fun _ _ => False) (fun _ _ h => h.elim) (fun _ _ _ _ => rfl)
      ⟨q1, q2⟩ (Nat.zero_le _) (.inr ⟨s, hβ, Nat.le_refl _, Nat.le_refl _, fun h => h, .inr (Nat.le_refl _)⟩) (Nat.le_refl _) (fun _ => hβ) (fun h => by omega) (fun j c hj => by
        rcases j with _ | _ | j
        · simp at hj
          subst hj
          exact hcells 0 _ rfl
        · obtain ⟨x, e1, e2, e3⟩ := hcells 1 _ rfl
          simp at hj
          subst hj
          cases e3
          refine ⟨_, e1, e2, .bs _ _ _ _ _ _ hd (Nat.le_refl _) ⟨_, _, _, rfl, .inl rfl⟩ (fun _ => ⟨none, 0, rfl, Nat.le_refl _, by simp, fun h => by omega⟩) fun a m cap ha h0 => ?_⟩
          injection ha with a1 a2 a3
          omega
        · simp at hj)
    rw [hset] at g1 g2
    exact ⟨_, ⟨hs.defers, hs.size, g1, hs.stp.trans (i2.trans g2), fun k => ((hs.tmps k).stp i2).stp g2⟩⟩

end Go.Proofs.YtnlmdeeadldgmaaGreatDoor.VL

/- Library: strings put together, with a text between each two. -/
-- STEPWISE
-- WK
set_option linter.unusedVariables false
set_option linter.unusedSimpArgs false
set_option maxRecDepth 1000000
namespace Go.Proofs.YtnlmdeeadldgmaaGreatDoor.VL
open Go Go.RowKit Go.Lib

/-- Strings with a text between each two. -/
def joinS (sep : List UInt8) : List (List UInt8) → List UInt8
  | [] => []
  | [s] => s
  | s :: r => s ++ sep ++ joinS sep r
def joinW (sep : List UInt8) (r : List (List UInt8)) : List UInt8 := r.flatMap fun s => sep ++ s
theorem joinS_cons (sep s : List UInt8) (r : List (List UInt8)) : joinS sep (s :: r) = s ++ joinW sep r := by
  induction r generalizing s with
  | nil => simp [joinS, joinW]
  | cons t r ih =>
    rw [show joinS sep (s :: t :: r) = s ++ sep ++ joinS sep (t :: r) from rfl, ih t]
    simp [joinW]
theorem joinW_snoc (sep s : List UInt8) (r : List (List UInt8)) : joinW sep (r ++ [s]) = joinW sep r ++ (sep ++ s) := by simp [joinW]
def lenS (l : List (List UInt8)) : Nat := (l.map List.length).sum
theorem lenS_snoc (l : List (List UInt8)) (s : List UInt8) : lenS (l ++ [s]) = lenS l + s.length := by simp [lenS]
theorem lenS_take_le (l : List (List UInt8)) (i : Nat) : lenS (l.take i) ≤ lenS l := by
  have : lenS l = lenS (l.take i) + lenS (l.drop i) := by
    conv => lhs; rw [← List.take_append_drop i l]
    simp only [lenS, List.map_append, List.sum_append]
  omega
end Go.Proofs.YtnlmdeeadldgmaaGreatDoor.VL

/- Library: strings put together, as the library does. -/
-- STEPWISE
-- WK
set_option linter.unusedVariables false
set_option linter.unusedSimpArgs false
set_option maxRecDepth 100000
namespace Go.Proofs.YtnlmdeeadldgmaaGreatDoor.VL
open Go Go.RowKit Go.Lib

theorem joinW_length (c : UInt8) (l : List (List UInt8)) : (joinW [c] l).length = lenS l + l.length := by
  induction l with
  | nil => rfl
  | cons s r ih =>
    rw [show joinW [c] (s :: r) = ([c] ++ s) ++ joinW [c] r from rfl, List.length_append, ih]
    simp [lenS]
    omega

end Go.Proofs.YtnlmdeeadldgmaaGreatDoor.VL

/- Layer 25: nets, as plain values. -/
import Derived.Test.YtnoekcdmaaakfaaZCd
import Derived.Test.YtnoekcdmaaakfaaZCe
set_option linter.unusedVariables false
set_option linter.unusedSimpArgs false
namespace Go.Proofs.Ytnoekcdmaaakfaa.VL
open Go Go.RowKit Go.Lib

structure Ml where
  f : Int
  t : Int
  d : List UInt8
deriving DecidableEq
structure Ct where
  a : Int
  b : Int
deriving DecidableEq
structure Nt where
  fl : List Ml
  cu : List Ct
deriving DecidableEq
abbrev mlC (m : Ml) : List AV := [vi m.f, vi m.t, vB m.d]
abbrev ctC (c : Ct) : List AV := [vi c.a, vi c.b]
abbrev mlG (l : List Ml) : List (List AV) := l.map mlC
abbrev ctG (l : List Ct) : List (List AV) := l.map ctC
abbrev ntC (n : Nt) : List AV := [.lst 3 (mlG n.fl), .lst 2 (ctG n.cu)]
@[go_sem] theorem mlG_length (l : List Ml) : (mlG l).length = l.length := by simp [mlG]
@[go_sem] theorem mlG_get (l : List Ml) (i : Nat) : (mlG l)[i]? = (l[i]?).map mlC := by simp [mlG]
@[go_sem] theorem ctG_length (l : List Ct) : (ctG l).length = l.length := by simp [ctG]
@[go_sem] theorem ctG_get (l : List Ct) (i : Nat) : (ctG l)[i]? = (l[i]?).map ctC := by simp [ctG]
@[go_sem] theorem mlG_take (l : List Ml) (i : Nat) : (mlG l).take i = mlG (l.take i) := by simp [mlG, List.map_take]
@[go_sem] theorem mlG_drop (l : List Ml) (i : Nat) : (mlG l).drop i = mlG (l.drop i) := by simp [mlG, List.map_drop]
@[go_sem] theorem ctG_take (l : List Ct) (i : Nat) : (ctG l).take i = ctG (l.take i) := by simp [ctG, List.map_take]
@[go_sem] theorem ctG_drop (l : List Ct) (i : Nat) : (ctG l).drop i = ctG (l.drop i) := by simp [ctG, List.map_drop]
theorem lt_ml {n : Nat} (l : List Ml) : Lt n (.lst 3 (mlG l)) := .lst _ _ fun i j g c hi hj => by
  simp only [mlG, List.getElem?_map] at hi
  obtain ⟨b, _, rfl⟩ := Option.map_eq_some_iff.1 hi
  rcases j with _ | _ | _ | j <;> simp at hj <;> subst hj
  · exact .v _
  · exact .v _
  · exact (lt_bytes _).mono (Nat.zero_le _)
theorem lt_ct {n : Nat} (l : List Ct) : Lt n (.lst 2 (ctG l)) := .lst _ _ fun i j g c hi hj => by
  simp only [ctG, List.getElem?_map] at hi
  obtain ⟨b, _, rfl⟩ := Option.map_eq_some_iff.1 hi
  rcases j with _ | _ | j <;> simp at hj <;> subst hj <;> exact .v _

def nodeOk (n : Int) : Bool := decide (0 ≤ n) && decide (n < 8)
def mlOk (m : Ml) : Bool := nodeOk m.f && (nodeOk m.t && decide (m.d.length ≤ 40000))
/-- The order of two cuts. -/
def ordC (x y : Ct) : Int := if x.a - y.a ≠ 0 then x.a - y.a else x.b - y.b
def ctOk (c : Ct) : Bool := nodeOk c.a && (nodeOk c.b && decide (c.a < c.b))
def chainOk : Option Ct → List Ct → Bool
  | _, [] => true
  | none, c :: l => ctOk c && chainOk (some c) l
  | some p, c :: l => ctOk c && (decide (ordC p c < 0) && chainOk (some c) l)
def ntOk (n : Nt) : Bool := decide (n.fl.length ≤ 60) && (decide (n.cu.length ≤ 28) && (n.fl.all mlOk && chainOk none n.cu))
def cutC (a b : Int) : Ct := ⟨min a b, max a b⟩
def blk (n : Nt) (a b : Int) : Bool := n.cu.any fun c => decide (cutC a b = c)
/-- Mails are sent. -/
def sendN (n : Nt) (l : List Ml) : Nt × Int × Int :=
  if ntOk n && l.all mlOk then (⟨n.fl ++ l.take (60 - n.fl.length), n.cu⟩, ((l.length - (60 - n.fl.length) : Nat) : Int), 0) else (n, 0, 1)
def mlZ : Ml := ⟨0, 0, []⟩
/-- What is asked of a place. -/
def askN (n : Nt) (at' : Int) : Int := if ntOk n = false then 1 else if at' < 0 ∨ (n.fl.length : Int) ≤ at' then 7 else 0
def dropN (n : Nt) (i : Nat) : Nt := ⟨n.fl.take i ++ n.fl.drop (i + 1), n.cu⟩
def takeNt (n : Nt) (at' : Int) : Nt × Ml × Int := if askN n at' = 0 then (dropN n at'.toNat, n.fl.getD at'.toNat mlZ, 0) else (n, mlZ, askN n at')
def delivN (n : Nt) (at' : Int) : Nt × Ml × Int :=
  if askN n at' = 0 then (if blk n (n.fl.getD at'.toNat mlZ).f (n.fl.getD at'.toNat mlZ).t then (dropN n at'.toNat, mlZ, 6) else (dropN n at'.toNat, n.fl.getD at'.toNat mlZ, 0)) else (n, mlZ, askN n at')
def loseN (n : Nt) (at' : Int) : Nt × Int := if askN n at' = 0 then (dropN n at'.toNat, 0) else (n, askN n at')
def dblN (n : Nt) (at' : Int) : Nt × Int :=
  if askN n at' = 0 then (if n.fl.length = 60 then (n, 8) else (⟨n.fl ++ [n.fl.getD at'.toNat mlZ], n.cu⟩, 0)) else (n, askN n at')

end Go.Proofs.Ytnoekcdmaaakfaa.VL

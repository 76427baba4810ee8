/- Layer 17: numbers and records behind bytes, as the program lays them. -/
import Derived.Test.YtkkhbmpcpilmfaaZCd
import Derived.Test.YtkkhbmpcpilmfaaZPa
import Derived.Test.YtkkhbmpcpilmfaaZSb
import Derived.Test.YtkkhbmpcpilmfaaZQuillB
-- STEPWISE
-- WK
-- TAIL
set_option linter.unusedVariables false
set_option linter.unusedSimpArgs false
set_option maxRecDepth 10000
namespace Go.Proofs.Ytkkhbmpcpilmfaa.VL
open Go Go.RowKit Go.Lib

/-- A number's lowest byte. -/
def b8 (n : Int) : UInt8 := UInt8.ofNat (n % 256).toNat
def two1 (n : Int) : List UInt8 := [b8 (n / 256), b8 n]
def twoB (l : List Int) : List UInt8 := l.flatMap two1
theorem wrap_b8 (n : Int) : IntKind.u8.wrap n = ((b8 n).toNat : Int) := by
  have hw : IntKind.u8.wrap n = n % 256 := by simp [IntKind.wrap, IntKind.bits, IntKind.signed]
  have h0 := Int.emod_nonneg n (show (256 : Int) ≠ 0 by decide)
  have h1 := Int.emod_lt_of_pos n (show (0 : Int) < 256 by decide)
  rw [hw, b8, UInt8.toNat_ofNat']
  omega
theorem twoB_length (l : List Int) : (twoB l).length = 2 * l.length := by
  induction l with
  | nil => rfl
  | cons a l ih =>
    have e : twoB (a :: l) = two1 a ++ twoB l := by simp [twoB]
    rw [e, List.length_append, ih, List.length_cons]
    simp [two1]
    omega
theorem twoB_snoc (l : List Int) (n : Int) : twoB (l ++ [n]) = twoB l ++ two1 n := by simp [twoB]

set_option maxHeartbeats 4000000 in
theorem two_loop (b g : Nat) (bs : List UInt8) (l : List Int) (hbs : bs.length ≤ 1099511627776) (hl : l.length ≤ 1048576) (Hx : List Box) (hb : Hx[b]? = some ⟨bytesC bs, 0, g, true⟩)
    (E : Ent) (hE : E.n = 23) (Q : AExit → ASt → Prop) (body : Code) (hbody : (Try.f30.body).bind firstLoop = some body)
    (hQ : ∀ k, lk k 0 = .sl b (g + l.length) 0 (bs ++ twoB l).length 1 false → Q (.exit 0) ⟨k, Hx.set b ⟨bytesC (bs ++ twoB l), 0, g + l.length, true⟩⟩) :
    AWP Try.prog E (.loop body) Q ⟨[(0, .sl b g 0 bs.length 1 false), (7, vI l), (8, vi l.length), (9, vi 0)], Hx⟩ := by
  have hbl : b < Hx.length := (List.getElem?_eq_some_iff.1 hb).1
  obtain ⟨base, n, w, H, β, hI⟩ := E
  dsimp only at *
  subst hE
  dsimp only [firstLoop, Option.bind, Try.f30] at hbody
  injection hbody with hbody
  subst hbody
  refine AWP.loop (ι := {i : Nat // i ≤ l.length}) (fun p => ⟨[(0, .sl b (g + p.1) 0 (bs ++ twoB (l.take p.1)).length 1 false), (7, vI l), (8, vi l.length), (9, vi p.1)], Hx.set b ⟨bytesC (bs ++ twoB (l.take p.1)), 0, g + p.1, true⟩⟩) (fun p => l.length - p.1) ⟨0, Nat.zero_le _⟩ ?_ ?_
  · have e0 : bs ++ twoB (l.take 0) = bs := by simp [twoB]
    have e1 : Hx.set b ⟨bytesC bs, 0, g + 0, true⟩ = Hx := set_same' hb
    dsimp only
    rw [e0, e1]
    exact Coe.kp
  · rintro ⟨i, hi⟩
    dsimp only
    by_cases hc : (i : Int) < (l.length : Int)
    · have hg : l[i]? = some l[i] := List.getElem?_eq_getElem (by omega)
      generalize l[i] = n at hg
      have hsn := twoB_snoc (l.take i) n
      rw [← take_snoc hg] at hsn
      have hlen := twoB_length (l.take i)
      rw [List.length_take] at hlen
      have hd : n.fdiv 256 = n / 256 := Int.fdiv_eq_ediv_of_nonneg _ (by decide)
      have w1 := wrap_b8 (n / 256)
      have w2 := wrap_b8 n
      generalize hacc : bs ++ twoB (l.take i) = acc
      have hal : acc.length ≤ 1099513725000 := by rw [← hacc, List.length_append]; omega
      have e3 : bs ++ twoB (l.take (i + 1)) = acc ++ two1 n := by rw [hsn, ← List.append_assoc, hacc]
      have hbx : (Hx.set b ⟨bytesC acc, 0, g + i, true⟩)[b]? = some ⟨bytesC acc, 0, g + i, true⟩ := List.getElem?_set_self hbl
      refine wkL (wA hc (wA hg (wA hd (wA w1 (wA w2 (wA hbx wT)))))) (wA TlM.mk wT) ?_
      refine ⟨⟨i + 1, by omega⟩, ?_, by dsimp only; omega⟩
      dsimp only
      have e4 : bytesC (acc ++ two1 n) = bytesC acc ++ [.v (.int .u8 (b8 (n / 256)).toNat), .v (.int .u8 (b8 n).toNat)] := by simp [bytesC, two1]
      have e5 : (acc ++ two1 n).length = acc.length + 2 := by simp [two1]
      rw [e3, e4, e5, ← Nat.add_assoc]
      exact Coe.kp
    · have : i = l.length := by omega
      subst this
      rw [List.take_length]
      refine wk (wA hc wT) (wA TlM.mk wT) ?_
      exact hQ _ rfl
/-- Behind one's own bytes. -/
theorem two_spec (b g : Nat) (bs : List UInt8) (l : List Int) (hbs : bs.length ≤ 1099511627776) (hl : l.length ≤ 1048576) (H : List Box) (hb : H[b]? = some ⟨bytesC bs, 0, g, true⟩) :
    ASpec Try.prog 30 [.sl b g 0 bs.length 1 false, vI l] H (fun o H' => o = .ret (.sl b (g + l.length) 0 (bs ++ twoB l).length 1 false) ∧ H' = H.set b ⟨bytesC (bs ++ twoB l), 0, g + l.length, true⟩) := by
  refine ASpec.enter Try.func30 rfl (fun a w => Try.call30 a w) Try.ntmps30 Try.results30 fun base w β hI => ?_
  refine wk wT (wA TlM.mk wT) ?_
  refine AWP.coe ?_ (two_loop b g bs l hbs hl H hb _ rfl _ _ rfl ?_)
  · exact Coe.kp
  · intro k hk
    refine wk (wA hk wT) (wA TlM.mk wT) ?_
    refine wkEnd wT ?_
    exact ⟨_, _, Shed.refl _ _ _, rfl, rfl⟩
/-- Behind nothing. -/
theorem twoNil_spec (l : List Int) (hl : l.length ≤ 1048576) (H : List Box) :
    ASpec Try.prog 30 [.emp, vI l] H (fun o H' => o = .ret (.sl H.length l.length 0 (twoB l).length 1 false) ∧ H' = H ++ [⟨bytesC (twoB l), 0, l.length, true⟩]) := by
  refine ASpec.enter Try.func30 rfl (fun a w => Try.call30 a w) Try.ntmps30 Try.results30 fun base w β hI => ?_
  refine wk wT (wA TlM.mk wT) ?_
  refine AWP.coe (Coe.emp0 (t := 0) (sz := 1) (l' := [(0, .sl H.length 0 0 0 1 false), (7, vI l), (8, vi l.length), (9, vi 0)]) rfl ?_) ?_
  · simp only [Keeps, List.mem_cons, List.not_mem_nil, or_false, forall_eq_or_imp, forall_eq]
    exact ⟨rfl, rfl, rfl, rfl⟩
  · refine two_loop H.length 0 [] l (by simp) hl (H ++ [⟨[], 0, 0, true⟩]) (by simp [bytesC]) ⟨base, 23, w, H, β, hI⟩ rfl _ _ rfl ?_
    intro k hk
    rw [List.nil_append, Nat.zero_add] at hk
    have e : (H ++ [(⟨[], 0, 0, true⟩ : Box)]).set H.length ⟨bytesC ([] ++ twoB l), 0, 0 + l.length, true⟩ = H ++ [⟨bytesC (twoB l), 0, l.length, true⟩] := by
      rw [List.set_append_right _ _ (Nat.le_refl _), Nat.sub_self, List.nil_append, Nat.zero_add]; rfl
    rw [e]
    refine wk (wA hk wT) (wA TlM.mk wT) ?_
    refine wkEnd wT ?_
    exact ⟨_, _, Shed.refl _ _ _, rfl, rfl⟩

theorem clip_spec (b g : Nat) (n : Nat) (hn : n ≤ 1099511627776) (ful : Bool) (H : List Box) {bx : Box} (hb : H[b]? = some bx) (hg : bx.gen = g) :
    ASpec Try.prog 33 [.sl b g 0 n 1 ful] H (Gives (.sl b g 0 n 1 true) H) := by
  subst hg
  have hlv : live H b bx.gen = true := by simp [live, hb]
  refine ASpec.enter Try.func33 rfl (fun a w => Try.call33 a w) Try.ntmps33 Try.results33 fun base w β hI => ?_
  refine wk (wA hb (wA hlv wT)) (wA TlM.mk wT) ?_
  refine wkEnd wT ?_
  exact ⟨_, _, Shed.refl _ _ _, rfl, rfl⟩

end Go.Proofs.Ytkkhbmpcpilmfaa.VL

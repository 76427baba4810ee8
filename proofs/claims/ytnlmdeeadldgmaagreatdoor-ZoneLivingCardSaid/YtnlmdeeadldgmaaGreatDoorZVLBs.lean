/- The value logic, part 7c: byte buffers whose block's type is known; bytes seen as a string. -/
import Derived.Test.YtnlmdeeadldgmaaGreatDoorZG07
import Derived.Test.YtnlmdeeadldgmaaGreatDoorZG06
import Derived.Lib.UnsafeStr
set_option linter.unusedVariables false
set_option linter.unusedSimpArgs false
namespace Go.Proofs.YtnlmdeeadldgmaaGreatDoor.VL
open Go Go.RowKit Go.Lib

section
variable {P : Program} {ρ : Operand → Value} {A : Operand → AV} {o : Oper} {base : Nat} {w : World} {H : List Box} {β : Pl}

def unbs : AV → AV
  | .bs b g n _ => .sl b g 0 n 1 false
  | .v (.slice none 0 0) => .emp
  | x => x
theorem unbs_rep {x : AV} {v : Value} (h : Rep w H β x v) : Rep w H β (unbs x) v := by
  unfold unbs
  split
  · cases h with
    | bs _ _ _ _ _ bx hb hg hx h ht =>
      obtain ⟨a, m, cap, hx, _⟩ := hx
      exact .sl _ _ _ _ _ _ _ bx hb hg ⟨a, m, cap, hx⟩ h
  · cases h
    exact .emp none
  · exact h
theorem bs_of_sl {b g n : Nat} {e : TypeId} {v : Value} (h : Rep w H β (.sl b g 0 n 1 false) v) (ht : ∀ a m cap, v = .slice a m cap → 0 < cap → ∃ (k : Nat) (c : Array Value) (fr : Nat × Nat), a = some ⟨k, 0, none⟩ ∧ w.heap[k]? = some (.cells c e fr) ∧ ((∃ y, Wr H β k y) → okFr fr c.size)) (hn : ∀ a m cap, v = .slice a m cap → a = none ∨ 0 < cap) : Rep w H β (.bs b g n e) v := by
  cases h with
  | sl _ _ _ _ _ _ _ bx hb hg hx h =>
    obtain ⟨a, m, cap, hx⟩ := hx
    exact .bs _ _ _ _ _ bx hb hg ⟨a, m, cap, hx, hn a m cap hx⟩ h ht

theorem andThen_inv {α β : Type} {r : Result α} {f : α → World → Result β} {b : β} {w' : World} (h : r.andThen f = .ok b w') : ∃ a w1, r = .ok a w1 ∧ f a w1 = .ok b w' := by
  cases r with
  | ok a w1 => exact ⟨a, w1, rfl, h⟩
  | halt x w1 => simp [Result.andThen] at h

/-- What an append hands back: the same row, or a new one. -/
theorem append_inv {t t2 ty e : TypeId} {i : TypeInfo} {z : Value} (ht : P.underlying t = some (.slice e)) (h2 : notInt P t2 = true) (hi : P.info? e = some i) (hz : i.zero = some z) {a : Option Addr} {n cap : Nat} {x v : Value} {w' : World}
    (hr : (Builtin.append_ #[t, t2] ty #[.slice a n cap, x]).run P w = .ok v w') : (∃ n', v = .slice a n' cap) ∨ ∃ k n' cap' c, v = .slice (some ⟨k, 0, none⟩) n' cap' ∧ 0 < cap' ∧ w'.heap[k]? = some (.cells c e (0, 0)) := by
  unfold notInt at h2
  split at h2
  case h_3 => cases h2
  all_goals
    rename_i hd2
    simp [Builtin.append_, run_underlying ht, run_underlying hd2, sizeOf, typeInfo, zeroValue, hi, hz, Question.forced] at hr
    obtain ⟨m, w1, h1, hr⟩ := andThen_inv hr
    have tail : ∀ (X : Array Value) (m' cp : Nat) (w2 : World), 0 < cp → ((newRow e X).run P w2).andThen (fun a w3 => .ok (.slice (some a) m' cp) w3) = .ok v w' → ∃ k n' cap' c, v = .slice (some ⟨k, 0, none⟩) n' cap' ∧ 0 < cap' ∧ w'.heap[k]? = some (.cells c e (0, 0)) := fun X m' cp w2 hm h => by
      simp [newRow] at h
      obtain ⟨h3, h4⟩ := h
      subst h4
      exact ⟨_, _, _, X, h3.symm, hm, by show (w2.heap.push (Obj.cells X e))[w2.heap.size]? = _; rw [Array.getElem?_push_size]⟩
    have mid : ∀ (sz n1 m1 m' cp : Nat) (y : Value) (F : Array Value → Array Value → Array Value) (w2 : World), 0 < cp → ((Builtin.firstCells sz n1 (.slice a n cap)).run P w2).andThen (fun b w3 => ((Builtin.firstCells sz m1 y).run P w3).andThen fun d w4 => ((newRow e (F b d)).run P w4).andThen fun a w5 => .ok (.slice (some a) m' cp) w5) = .ok v w' → ∃ k n' cap' c, v = .slice (some ⟨k, 0, none⟩) n' cap' ∧ 0 < cap' ∧ w'.heap[k]? = some (.cells c e (0, 0)) := fun sz n1 m1 m' cp y F w2 hm h => by
      obtain ⟨b, w3, _, h⟩ := andThen_inv h
      obtain ⟨d, w4, _, h⟩ := andThen_inv h
      exact tail _ _ _ _ hm h
    split at hr
    · obtain ⟨cs, w2, _, hr⟩ := andThen_inv hr
      cases a with
      | none => simp at hr; exact .inl ⟨_, hr.1.symm⟩
      | some ad =>
        dsimp only at hr
        rw [map_eq_pure_bind, Sem.run_bind] at hr
        obtain ⟨_, _, _, h2⟩ := andThen_inv hr
        simp at h2
        exact .inl ⟨_, h2.1.symm⟩
    · rename_i hnf
      right
      split at hr
      · obtain ⟨_, _, h3, _⟩ := andThen_inv hr
        exact absurd h3 (by unfold runtimePanic; exact fun h => nomatch h)
      · split at hr
        · obtain ⟨_, _, h3, _⟩ := andThen_inv hr
          obtain ⟨_, _, _, h4⟩ := andThen_inv h3
          simp at h4
        · exact mid _ _ _ _ _ _ (fun b d => b ++ (d ++ _)) _ (Nat.lt_of_lt_of_le (by omega) (grownCap_le w1 (n + m) cap e)) hr

def aappendB (P : Program) (t : TypeId) (H : List Box) (s x : AV) : Option (AV × List Box) :=
  match elemTy P t with
  | some e => if (zeroCs P e).map List.length = some (P.cellsOf e) then
      match aappendT P t H (unbs s) x with
      | some (.sl b' g' 0 n' 1 false, H') => some (.bs b' g' n' e, H')
      | _ => none
    else none
  | none => none
def isBs (P : Program) (t : TypeId) : AV → Bool
  | .bs _ _ _ e => match elemTy P t with
    | some e' => e' == e
    | none => false
  | .v (.slice none 0 0) => true
  | _ => false

theorem does_appendB (hI : Inv base w H β) (hA : ∀ x, Rep w H β (A x) (ρ x)) {t t2 : TypeId} {s x : Operand} (ho : o.op = .call { callee := .builtin .append, args := #[s, x], argTypes := #[t, t2] })
    (h2 : notInt P t2 = true) (hs : isBs P t (A s) = true) {r : AV} {H' : List Box} (h : aappendB P t H (A s) (unbs (A x)) = some (r, H')) : Does P ρ o base w H β r H' := by
  unfold aappendB at h
  split at h
  · rename_i e he
    split at h
    · rename_i hz
      obtain ⟨hu, d, hd⟩ := elemTy_spec he
      split at h
      · rename_i b' g' n' H1 hap
        injection h with h
        injection h with e1 e2
        subst e1; subst e2
        have hA' : ∀ y, Rep w H β (unbs (A y)) (ρ y) := fun y => unbs_rep (hA y)
        obtain ⟨v, w', β', r1, r2, r3, r4⟩ := does_appendT (A := fun y => unbs (A y)) hI hA' ho h2 hap
        have hv : (execOp ρ o).run P w = .ok (.value v) w' := by
          rcases r1 with r1 | ⟨_, rfl⟩
          · exact r1
          · cases r4 with
            | sl _ _ _ _ _ _ _ bx hb hg hx h => obtain ⟨a, m, cap, hx⟩ := hx; cases hx
        obtain ⟨a0, m0, cap0, hvs, hnil, ht⟩ : ∃ a0 m0 cap0, ρ s = .slice a0 m0 cap0 ∧ (a0 = none ∨ 0 < cap0) ∧ (0 < cap0 → ∃ (k : Nat) (c : Array Value) (fr : Nat × Nat), a0 = some ⟨k, 0, none⟩ ∧ w.heap[k]? = some (.cells c e fr) ∧ ((∃ y, Wr H β k y) → okFr fr c.size)) := by
          have hr := hA s
          unfold isBs at hs
          split at hs
          · rename_i b g n e' hAs
            rw [he] at hs
            have hee : e = e' := by simpa using hs
            subst hee
            rw [hAs] at hr
            generalize ρ s = vs at hr
            cases hr with
            | bs _ _ _ _ _ bx hb hg hx hh ht =>
              obtain ⟨a0, m0, cap0, rfl, hn⟩ := hx
              exact ⟨a0, m0, cap0, rfl, hn, ht _ _ _ rfl⟩
          · rename_i hAs
            rw [hAs] at hr
            generalize ρ s = vs at hr
            cases hr
            exact ⟨none, 0, 0, rfl, .inl rfl, fun h => by omega⟩
          · cases hs
        obtain ⟨i, z, hi, hiz, _⟩ := zero_info hz
        have hrun : (Builtin.append_ #[t, t2] o.type #[.slice a0 m0 cap0, ρ x]).run P w = .ok v w' := by
          simp [execOp, ho, resolve, invoke, builtin, hvs] at hv
          obtain ⟨y, w1, h3, h4⟩ := andThen_inv hv
          simp at h4
          obtain ⟨rfl, rfl⟩ := h4
          exact h3
        have hinv := append_inv hu h2 hi hiz hrun
        refine ⟨v, w', β', .inl hv, r2, r3, bs_of_sl r4 ?_ ?_⟩
        · intro a m cap hva h0
          rcases hinv with ⟨n1, hv1⟩ | ⟨k, n1, cap1, c, hv1, hn1, hk⟩
          · rw [hv1] at hva
            injection hva with q1 q2 q3
            subst q1; subst q2; subst q3
            obtain ⟨k, c, fr, f1, f2, f3⟩ := ht h0
            obtain ⟨c', fr', g5, _, _, g7⟩ := r3.shape k c _ fr f2
            exact ⟨k, c', fr', f1, g5, fun hw => g7 (f3 (hw.imp fun y hy => r3.wr k y (Array.getElem?_eq_some_iff.1 f2).1 hy)) hw⟩
          · rw [hv1] at hva
            injection hva with q1 q2 q3
            subst q1
            exact ⟨k, c, (0, 0), rfl, hk, fun _ => ⟨Nat.le_refl _, Nat.zero_le _⟩⟩
        · intro a m cap hva
          rcases hinv with ⟨n1, hv1⟩ | ⟨k, n1, cap1, c, hv1, hn1, hk⟩
          · rw [hv1] at hva
            injection hva with q1 q2 q3
            subst q1; subst q3
            exact hnil
          · rw [hv1] at hva
            injection hva with q1 q2 q3
            subst q3
            exact .inr hn1
      · cases h
    · cases h
  · cases h

/-- The first n elements. -/
def abslice (P : Program) (t : TypeId) (H : List Box) (b g n : Nat) (e : TypeId) (lo hi mx : Option AV) : Option AV :=
  match lo, mx, elemTy P t with
  | none, none, some e' => if P.cellsOf e' = 1 ∧ live H b g = true then (abnd hi n n).map fun h => .bs b g h e else none
  | _, _, _ => none
theorem does_bslice (hI : Inv base w H β) (hA : ∀ x, Rep w H β (A x) (ρ x)) {t : TypeId} {x : Operand} {lo hi mx : Option Operand} (ho : o.op = .slice t x lo hi mx) {b g n : Nat} {e : TypeId} (hx : A x = .bs b g n e) {r : AV} (h : abslice P t H b g n e (lo.map A) (hi.map A) (mx.map A) = some r) : Does P ρ o base w H β r H := by
  unfold abslice at h
  split at h
  · rename_i e' hlo hmx he
    have hlo' : lo = none := by cases lo <;> simp_all
    have hmx' : mx = none := by cases mx <;> simp_all
    subst hlo'; subst hmx'
    obtain ⟨hu, d, hd⟩ := elemTy_spec he
    split at h
    · rename_i hc
      obtain ⟨hsz, hl⟩ := hc
      obtain ⟨hh, h1, rfl⟩ := Option.map_eq_some_iff.1 h
      have hr := hA x
      rw [hx] at hr
      obtain ⟨bx, e1, e2, a, cap, hv, e4, e5, e6⟩ := live_sl hl (unbs_rep hr)
      obtain ⟨b1, b2, b3⟩ := run_bounds (P := P) (lo := none) (l := 0) hA true e4 h1 rfl
      have b1' : (Instr.sliceBounds true n cap none (hi.map ρ) none).run P w = .ok (0, hh, cap) w := b1
      rw [hv] at hr
      refine .same hI (v := .slice a hh cap) ?_ (bs_of_sl (rep_sl e1 e2 ⟨a, cap, rfl, by omega, by simp, fun h0 => ?_⟩) (fun a' m cap' ha h0 => ?_) fun a' m cap' ha => ?_)
      · simp only [execOp, ho, hv, Instr.sliceAt, Sem.run_bind, run_underlying hu, Result.andThen_ok, Instr.slice, Option.map_none, b1', run_sizeOf' hd, Sem.run_pure, hsz, Nat.zero_mul, Nat.sub_zero]
        by_cases hc0 : cap = 0
        · rw [if_pos hc0]
        · rw [if_neg hc0]
          cases a with
          | none => rfl
          | some ad => simp [Addr.add]
      · obtain ⟨k, s, c, et, fr, f1, f2, f3, f4⟩ := e6 h0
        exact ⟨k, s, c, et, fr, f1, f2, f3, f4⟩
      · injection ha with q1 q2 q3
        subst q1; subst q3
        cases hr with
        | bs _ _ _ _ _ bx hb hg hx hh ht => exact ht _ _ _ rfl h0
      · injection ha with q1 q2 q3
        subst q1; subst q3
        cases hr with
        | bs _ _ _ _ _ bx hb hg hx hh ht =>
          obtain ⟨a1, m1, c1, q, hn⟩ := hx
          injection q with q1 q2 q3
          subst q1; subst q3
          exact hn
    · cases h
  · cases h

/-- The first element's place. -/
theorem does_sliceData (hI : Inv base w H β) (hA : ∀ x, Rep w H β (A x) (ρ x)) {t : TypeId} {x : Operand} (ho : o.op = .call { callee := .builtin .unsafeSliceData, args := #[x], argTypes := #[t] }) {e' : TypeId} (hty : P.underlying o.type = some (.pointer e')) {b g n : Nat} {e : TypeId} (hx : A x = .bs b g n e) (hl : live H b g = true) : Does P ρ o base w H β (.bp b g n e) H := by
  have hr := hA x
  rw [hx] at hr
  obtain ⟨bx, e1, e2, a, cap, hv, e4, e5, e6⟩ := live_sl hl (unbs_rep hr)
  rw [hv] at hr
  cases hr with
  | bs _ _ _ _ _ bx' hb hg hx' hh ht =>
    have key : ∀ v w', (Builtin.unsafeSliceData_ #[t] o.type #[ρ x]).run P w = .ok v w' → (execOp ρ o).run P w = .ok (.value v) w' := fun v w' h => by
      simp [execOp, ho, resolve, invoke, builtin, h]
    rw [hv] at key
    cases a with
    | none =>
      have hn : n = 0 := by
        rcases Nat.eq_zero_or_pos cap with h0 | h0
        · omega
        · obtain ⟨k, s, c, et, fr, f1, f2, _⟩ := e6 h0
          cases f2
      exact .same hI (v := .pointer none) (key _ _ (run_unsafeSliceData_nil w _ _ _ _)) (.bp _ _ _ _ _ ⟨_, rfl⟩ fun h => by omega)
    | some ad =>
      by_cases hc0 : cap = 0
      · obtain ⟨a1, m1, c1, q, hn⟩ := hx'
        injection q with q1 q2 q3
        subst q1; subst q3
        rcases hn with hn | hn
        · cases hn
        · omega
      · obtain ⟨k, s, c, et, fr, f1, f2, f3, f4⟩ := e6 (by omega)
        obtain ⟨k', c', fr', q1, q2, q3⟩ := ht _ _ _ rfl (by omega)
        injection f2 with f2
        injection q1 with q1
        rw [q1] at f2
        injection f2 with f5 f6
        subst f5
        have hs0 : s = 0 := by omega
        subst hs0
        rw [q2] at f3
        injection f3 with f3
        injection f3 with f7 f8 f9
        subst f7; subst f8; subst f9
        refine .same hI (v := .pointer (some ad)) (key _ _ (run_unsafeSliceData_row w _ _ _ _ _ hc0)) (.bp _ _ _ _ _ ⟨_, rfl⟩ fun h => ⟨bx, e1, by omega, fun _ => ⟨k', c', fr', f1, by rw [q1], q2, q3, by omega⟩⟩)

/-- Bytes that a string shares from now on. -/
theorem share_cells {w : World} {k n : Nat} {c : Array Value} {e : TypeId} {fr : Nat × Nat} (hn : n ≠ 0) (hk : w.heap[k]? = some (.cells c e fr)) :
    (w.freeze ⟨k, 0, none⟩ n).heap[k]? = some (.cells c e (if fr.1 == fr.2 then (0, 0 + n) else (min fr.1 0, max fr.2 (0 + n)))) := by
  obtain ⟨lo, hi⟩ := fr
  unfold World.freeze
  rw [if_neg hn]
  simp only [Array.getElem?_modify, if_true, hk, Option.map_some]
theorem freezeC (w : World) (a b : Addr) (n : Nat) : (w.freeze a n).cell? b = w.cell? b := by
  unfold World.freeze
  split
  · rfl
  · unfold World.cell?
    simp only [Array.getElem?_modify]
    by_cases h : a.block = b.block
    · rw [if_pos h]
      cases w.heap[b.block]? with
      | none => rfl
      | some o => cases o <;> rfl
    · rw [if_neg h]
theorem sharef_inv {b k n : Nat} {bx : Box} {c : Array Value} {e : TypeId} {fr : Nat × Nat} (hI : Inv base w H β) (hb : H[b]? = some bx) (hβ : β b = some (k, 0)) (hgrow : bx.grow = true) (hro : n = bx.ro) (hx : ∀ x, Wr H β k x → n ≤ x) (hn : n ≠ 0) (hk : w.heap[k]? = some (.cells c e fr)) (hfr : okFr fr c.size) :
    Inv base (w.freeze ⟨k, 0, none⟩ n) H β ∧ Stp base w H β (w.freeze ⟨k, 0, none⟩ n) H β := by
  obtain ⟨hbk, hkl⟩ := hI.real b bx k 0 hb hβ
  have hheap : ∀ k', k' ≠ k → (w.freeze ⟨k, 0, none⟩ n).heap[k']? = w.heap[k']? := fun k' h => by
    unfold World.freeze
    rw [if_neg hn]
    simp only [Array.getElem?_modify, if_neg (Ne.symm h)]
  have hsz : (w.freeze ⟨k, 0, none⟩ n).heap.size = w.heap.size := by
    unfold World.freeze
    rw [if_neg hn]
    simp
  have hkk := share_cells hn hk
  have hhi : fr.1 = fr.2 ∨ fr.2 ≤ bx.ro := by
    rcases Nat.lt_or_ge fr.1 fr.2 with h | h
    · right
      refine Nat.le_of_not_lt fun hlt => ?_
      have hw : Wr H β k (fr.2 - 1) := ⟨b, bx, 0, hb, hβ, by omega, .inl hgrow⟩
      have := hI.free _ _ hw ⟨c[fr.2 - 1]'(by have := hfr.2; omega), by unfold World.cell?; dsimp only; rw [hk]; simp only [Option.isSome_none, Bool.false_eq_true, if_false]; exact Array.getElem?_eq_getElem _⟩
      unfold World.frozen? at this
      dsimp only at this
      rw [hk] at this
      simp at this
      omega
    · left; have := hfr.1; omega
  have hnc : n ≤ c.size := by
    have h1 := hI.ro b bx hb
    have h2 : n - 1 < bx.cells.length := by omega
    obtain ⟨x, h3, _⟩ := hI.cells b bx k 0 hb hβ (n - 1) _ (List.getElem?_eq_getElem h2)
    unfold World.cell? at h3
    dsimp only at h3
    rw [hk] at h3
    simp at h3
    have := (Array.getElem?_eq_some_iff.1 h3).1
    omega
  have hst : Stp base w H β (w.freeze ⟨k, 0, none⟩ n) H β := by
    refine ⟨by unfold World.freeze; split <;> rfl, by unfold World.freeze; split <;> rfl, by unfold World.freeze; split <;> rfl, Nat.le_of_eq hsz.symm, fun k' c' e' fr' h => ?_, fun k' o h ho => ?_, fun k' x _ _ => freezeC _ _ _ _, fun _ _ _ h => h, fun i bi hi => ⟨bi, hi, Nat.le_refl _, fun _ => rfl⟩⟩
    · by_cases hkq : k' = k
      · subst hkq
        rw [hk] at h
        injection h with h
        injection h with h1 h2 h3
        subst h1; subst h2; subst h3
        refine ⟨c, _, hkk, rfl, fun hh => by omega, fun ho _ => ?_⟩
        have ho1 := ho.1
        have ho2 := ho.2
        split
        · exact ⟨by simp, by simpa using hnc⟩
        · exact ⟨by simp only; omega, by simp only; omega⟩
      · exact ⟨c', fr', by rw [hheap _ hkq]; exact h, rfl, fun _ => rfl, fun h _ => h⟩
    · by_cases hkq : k' = k
      · subst hkq
        rw [hk] at h
        injection h with h
        exact absurd h.symm (ho c e fr)
      · rw [hheap _ hkq]; exact h
  refine ⟨⟨hI.bseS hst, hI.ro, hI.virt, fun i bx k' s' h h' => by rw [hsz]; exact hI.real i bx k' s' h h', fun i bx k' s' h h' j c' hj => ?_, fun k' x h hcx => ?_, hI.apart⟩, hst⟩
  · obtain ⟨x, g1, g2, g3⟩ := hI.cells i bx k' s' h h' j c' hj
    exact ⟨x, by rw [freezeC]; exact g1, g2, g3.stp hst⟩
  · have hold := hI.free k' x h (by rw [freezeC] at hcx; exact hcx)
    unfold World.frozen? at hold ⊢
    dsimp only at hold ⊢
    by_cases hkq : k' = k
    · subst hkq
      have hx := hx x h
      rw [hkk]
      rw [hk] at hold
      simp only [Bool.and_eq_false_iff, decide_eq_false_iff_not] at hold ⊢
      split
      · right; simp only; omega
      · rename_i hne
        simp only [beq_iff_eq] at hne
        right; simp only
        rcases hhi with hhi | hhi
        · omega
        · omega
    · rw [hheap _ hkq]
      exact hold

/-- Bytes are seen as a string: they are only read from then on. -/
def aunsafeString (P : Program) (t : TypeId) (H : List Box) (p l : AV) : Option (AV × List Box) :=
  match p, l with
  | .v (.pointer none), .v (.int .i64 m) => if m = 0 then some (.v (.string ⟨#[]⟩), H) else none
  | .bp b g n e, .v (.int .i64 m) => if m = n then
      if n = 0 then some (.v (.string ⟨#[]⟩), H) else
      match H[b]?, P.underlying t with
      | some bx, some (.pointer e') => if bx.gen = g ∧ bx.grow = true ∧ bx.ro = 0 ∧ n = bx.cells.length ∧ e' = e ∧ P.cellsOf e = 1 ∧ n ≤ 9223372036854775807 then
          (bytesOfC bx.cells).map fun bs => (.v (.string ⟨bs.toArray⟩), H.set b ⟨bx.cells, n, bx.gen, bx.grow⟩) else none
      | _, _ => none
    else none
  | _, _ => none
theorem does_unsafeString (hI : Inv base w H β) (hA : ∀ x, Rep w H β (A x) (ρ x)) {t t2 : TypeId} {p l : Operand} (ho : o.op = .call { callee := .builtin .unsafeString, args := #[p, l], argTypes := #[t, t2] }) {r : AV} {H' : List Box} (h : aunsafeString P t H (A p) (A l) = some (r, H')) : Does P ρ o base w H β r H' := by
  have hp := hA p
  have hl := hA l
  have key : ∀ v w', (Builtin.unsafeString_ #[t, t2] o.type #[ρ p, ρ l]).run P w = .ok v w' → (execOp ρ o).run P w = .ok (.value v) w' := fun v w' h => by
    simp [execOp, ho, resolve, invoke, builtin, h]
  unfold aunsafeString at h
  split at h
  · rename_i m hAp hAl
    rw [hAp] at hp
    rw [hAl] at hl
    generalize hvp : ρ p = vp at hp
    generalize hvl : ρ l = vl at hl
    rw [hvp, hvl] at key
    cases hp
    cases hl
    split at h
    · rename_i h0
      subst h0
      injection h with h
      injection h with e1 e2
      subst e1; subst e2
      exact .same hI (key _ _ (run_unsafeString_none w _ _ _ none)) (.v _)
    · cases h
  · rename_i b g n e m hAp hAl
    rw [hAp] at hp
    rw [hAl] at hl
    generalize hvp : ρ p = vp at hp
    generalize hvl : ρ l = vl at hl
    rw [hvp, hvl] at key
    cases hl
    cases hp with
    | bp _ _ _ _ _ hx hh =>
      obtain ⟨a, rfl⟩ := hx
      split at h
      · rename_i hm
        subst hm
        split at h
        · rename_i h0
          subst h0
          injection h with h
          injection h with e1 e2
          subst e1; subst e2
          exact .same hI (key _ _ (run_unsafeString_none w _ _ _ a)) (.v _)
        · rename_i h0
          split at h
          · rename_i bx e' hb hu
            split at h
            · rename_i hc
              obtain ⟨hg, hgrow, hro, hn, rfl, hce, h63⟩ := hc
              obtain ⟨bs, hbs, h⟩ := Option.map_eq_some_iff.1 h
              injection h with e1 e2
              subst e1; subst e2
              have hcs := bytesOfC_spec _ _ hbs
              obtain ⟨bx', hb', _, hq⟩ := hh (by omega)
              rw [hb] at hb'
              obtain rfl := Option.some.inj hb'
              obtain ⟨k, c, fr, f1, f2, f3, f4, f5⟩ := hq hg
              have hbl : bs.length = n := by rw [hn, hcs, List.length_map]
              have hcell : ∀ j x, bs[j]? = some x → w.cell? ((⟨k, 0, none⟩ : Addr).add j) = some (.int .u8 x.toNat) := fun j x hj => by
                obtain ⟨y, y1, _, y3⟩ := hI.cells b bx k 0 hb f1 j (.v (.int .u8 x.toNat)) (by rw [hcs, List.getElem?_map, hj]; rfl)
                cases y3
                rw [add_plain]
                exact y1
              have hrun := run_unsafeString_row (P := P) w t t2 o.type e' hu hce k c.size (by simp [World.shape?, f3]) bs (by intro hh; rw [hh] at hbl; simp at hbl; omega) (by omega) (by omega) hcell
              obtain ⟨g1, g2⟩ := freeze_inv hI hb (m := n) (by omega)
              have hmax : max bx.ro n = n := by omega
              rw [hmax] at g1 g2
              have hbl' : b < H.length := (List.getElem?_eq_some_iff.1 hb).1
              have hb2 : (H.set b ⟨bx.cells, n, bx.gen, bx.grow⟩)[b]? = some ⟨bx.cells, n, bx.gen, bx.grow⟩ := List.getElem?_set_self hbl'
              obtain ⟨g3, g4⟩ := sharef_inv g1 hb2 f1 hgrow rfl (fun x hw => by
                obtain ⟨i, bi, s, h1, h2, h3, h4⟩ := hw
                by_cases hi : i = b
                · subst hi
                  rw [hb2] at h1
                  injection h1 with h1
                  subst h1
                  rw [f1] at h2
                  injection h2 with h2
                  injection h2 with _ h2
                  subst h2
                  have h5 : 0 + n ≤ x := h3
                  omega
                · rw [List.getElem?_set_ne (Ne.symm hi)] at h1
                  exact absurd (.inl hgrow) (hI.apart i b bi bx k s 0 x hi h1 hb h2 f1 h3 h4 (by omega))) h0 f3 (f4 ⟨0 + bx.ro, b, bx, 0, hb, f1, Nat.le_refl _, .inl hgrow⟩)
              rw [hbl] at hrun
              rw [f2] at key
              exact ⟨_, _, _, .inl (key _ _ hrun), g3, g2.trans g4, .v _⟩
            · cases h
          · cases h
      · cases h
  · cases h

end
end Go.Proofs.YtnlmdeeadldgmaaGreatDoor.VL

/- The value logic, part 14: from a contract without boxes to a given row. -/
import Derived.Test.YtkkhbmpcpilmfaaDoorVLFroz
import Derived.ProofKit
import Derived.Handed
import Derived.Carry
import Derived.JoinedOf
set_option linter.unusedVariables false
set_option linter.unusedSimpArgs false
namespace Go.Proofs.YtkkhbmpcpilmfaaDoor.VL
open Go Go.RowKit Go.Lib Go.ChangeShapes Go.WideShapes

def noP : Pl := fun _ => none
theorem not_wr (k x : Nat) : ¬ Wr [] noP k x := by rintro ⟨i, bx, s, h, _⟩; simp at h
theorem inv_nil (w : World) : Inv w.heap.size w [] noP :=
  ⟨Nat.le_refl _, fun i bx h => by simp at h, fun i bx h => by simp at h, fun i bx k s h => by simp at h, fun i bx k s h => by simp at h, fun k x h => absurd h (not_wr k x), fun i i' bx bx' k s s' x _ h => by simp at h⟩

theorem below_of_stp {w w' : World} {H' : List Box} {β' : Pl} (h : Stp w.heap.size w [] noP w' H' β') : Below w.heap.size w w' :=
  ⟨h.os, h.tape, h.output, h.size, fun k hk => by
    have hk' : k < w'.heap.size := Nat.lt_of_lt_of_le hk h.size
    rw [Array.getElem?_eq_getElem hk]
    cases ho : w.heap[k] with
    | cells c e fr =>
      have hs : w.heap[k]? = some (.cells c e fr) := by rw [Array.getElem?_eq_getElem hk, ho]
      obtain ⟨c', fr', h1, h2, h3, _⟩ := h.shape k c e fr hs
      rw [h1, h3 hk]
      have : c' = c := by
        apply Array.ext_getElem?
        intro j
        have := h.keep k j hk (not_wr k j)
        simpa [World.cell?, h1, hs] using this
      rw [this]
    | _ => exact h.other k _ (by rw [Array.getElem?_eq_getElem hk, ho]) (by intro c e fr hh; cases hh)⟩

section
variable {H : Type} {enc : TypeId × Value → H} {P : Program}

theorem trodAll_below (hl : laidOutB P = true) {W W' : World} (hb : Below W.heap.size W W') : ∀ (ts : List TypeId) (vs : List Value) (ds : List (DataW H)) (ps : List MemPlace), (∀ t ∈ ts, P.readableRec t = true ∧ t < P.types.size) → (∀ x ∈ ps, x.block < W.heap.size) →
    DataW.TrodAll enc P W 0 (fun _ => true) true ts vs ds ps → DataW.TrodAll enc P W' 0 (fun b => decide (b < W.heap.size)) true ts vs ds ps := by
  intro ts
  induction ts with
  | nil => intro vs ds ps _ _ h; obtain ⟨rfl, rfl, rfl⟩ := trodAll_nil h; trivial
  | cons t ts ih =>
    intro vs ds ps ht hlt h
    obtain ⟨v, vs', d, ds', p, q, rfl, rfl, rfl, h1, h2⟩ := trodAll_cons h
    have h3 := ht t (by simp)
    exact ⟨p, q, Below.trod hl h3.1 h3.2 h1 hb (fun x hx => hlt x (by simp [hx])), ih vs' ds' q (fun t h => ht t (by simp [h])) (fun x hx => hlt x (by simp [hx])) h2, rfl⟩

/-- A law that returns true, as its row has it. -/
theorem law_calls {f : FuncId} {fn : Func} {s : ChangeSpec} {apart fresh handsOn : Bool} {W : World} {args : Array Value} {ds gs : List (DataW H)} {before : List MemPlace} {tb : TypeId} {as : List AV}
    (hl : laidOutB P = true) (hts' : fn.params.toList.all (fun t => P.readableRec t && decide (t < P.types.size)) = true) (hv : s.vars = []) (hW : DataW.Whole enc P fn.params.toList s.vars apart W args.toList ds gs before)
    (hres : fn.resultTypes = #[tb]) (hub : P.underlying tb = some .bool) (hs : s.fn H (ds ++ gs) = { results := [.lit (.bool true)], args := ds })
    (hr : Reps W [] noP as args) (hc : ASpec P f as [] (fun o H' => o = .ret (.v (.bool true)) ∧ H' = [])) (hen : enters P f) :
    Calls P f args W fun e W' => ∃ v, e = .returned v ∧ s.post enc P fn apart fresh handsOn false W args v W' := by
  have hts : ∀ t ∈ fn.params.toList, P.readableRec t = true ∧ t < P.types.size := fun t ht => by
    have := List.all_eq_true.1 hts' t ht
    simpa using this
  have hcalls := (hc W.heap.size) W noP args (inv_nil W) hr
  rcases hcalls with ⟨_, hcalls⟩ | ⟨v, w', h1, _⟩
  rotate_left
  · rw [hen args W] at h1
    cases h1
  refine hcalls.mono fun e W' ⟨out, H', β', hK, k2, k3, k4⟩ => ?_
  obtain ⟨rfl, rfl⟩ := hK
  cases e with
  | panicked c => exact k2.elim
  | outgrown => exact k2.elim
  | returned v =>
    cases k2
    have hB := below_of_stp k4
    have hW0 := hW
    obtain ⟨p, q, hA, hV, hpq, _⟩ := hW
    rw [hv] at hV
    obtain ⟨rfl, rfl⟩ := trodVars_none hV
    have hlt : ∀ x ∈ p, x.block < W.heap.size := fun x hx => hW0.lt x (by rw [hpq]; simp [hx])
    refine ⟨_, rfl, ds, [], before, [], p, [], hW0, ?_, ?_, ?_, hB.frame _, fun h => by cases h⟩
    · rw [hs, hres]
      exact trodAll_mk1 (shut_bool hub true)
    · rw [hs]
      exact trodAll_below hl hB _ _ _ _ hts hlt hA
    · rw [hs, hv]
      trivial

/-! ### Arguments -/
theorem reps_nil {w : World} : Reps w [] noP [] #[] := ⟨rfl, fun i c x h => by simp at h⟩
theorem reps_cons {w : World} {H0 : List Box} {β : Pl} {c : AV} {x : Value} {cs : List AV} {xs : List Value} (h : Rep w H0 β c x) (hs : Reps w H0 β cs xs.toArray) : Reps w H0 β (c :: cs) (x :: xs).toArray :=
  ⟨by have := hs.1; simp at this ⊢; exact this, fun i c' x' h1 h2 => by
    cases i with
    | zero => simp at h1 h2; subst h1; subst h2; exact h
    | succ i => exact hs.2 i c' x' (by simpa using h1) (by simpa using h2)⟩

/-- A slice of numbers of a kind, as an argument. -/
theorem repc_nums {W : World} {t e : TypeId} {k : IntKind} {v : Value} {fuel : Nat} {x : DataW H × List MemPlace} (ht : P.underlying t = some (.slice e)) (he : P.underlying e = some (.int k)) (hc : P.cellsOf e = 1)
    (hf : DataW.trod enc P W 0 (fun _ => true) true fuel t [v] = some x) : ∃ l : List Int, Rep W [] noP (.lst 1 (l.map fun n => [.v (.int k n)])) v ∧ (∀ n ∈ l, k.min ≤ n ∧ n ≤ k.max) ∧ l.length ≤ 9223372036854775807 := by
  rcases Go.ChangeShapes.open_ints ht he hc hf with ⟨h, _⟩ | ⟨a', len, cap, zs, h, hb, hlc, hm, hzl, hx, hcell, hwf⟩
  · injection h with h _
    subst h
    exact ⟨[], .lst0 1 none 0, by simp, by simp⟩
  · injection h with h _
    subst h
    have hwf' : ∀ n ∈ zs, k.min ≤ n ∧ n ≤ k.max := fun n hn => by simpa [Lit.wf] using hwf n hn
    simp only [if_true] at hzl
    refine ⟨zs.take len, ?_, fun n hn => hwf' n (List.mem_of_mem_take hn), by simp only [maxLen] at hm; simp; omega⟩
    rcases Nat.eq_zero_or_pos len with h0 | h0
    · subst h0
      exact .lst0 1 _ _
    · have hsp : a'.spot = none := by
        have := hcell 0 (by omega)
        unfold World.cell? at this
        split at this
        · cases hs : a'.spot with
          | none => rfl
          | some y => simp [Addr.add, hs] at this
        · cases this
      obtain ⟨k0, s0, sp⟩ := a'
      dsimp only at hsp
      subst hsp
      have hlen : ((zs.take len).map fun n => [AV.v (.int k n)]).length = len := by simp; omega
      have := Rep.lst (w := W) (H := []) (β := noP) 1 ((zs.take len).map fun n => [AV.v (.int k n)]) k0 s0 cap (fun i _ => .int k (zs.getD i 0)) (by omega) (fun i g hg => by
          simp only [List.getElem?_map] at hg
          obtain ⟨n, _, rfl⟩ := Option.map_eq_some_iff.1 hg
          rfl) (fun i j g c hi hj => by
          have hil := (List.getElem?_eq_some_iff.1 hi).1
          simp only [List.getElem?_map] at hi
          obtain ⟨n, hn, rfl⟩ := Option.map_eq_some_iff.1 hi
          have hj0 : j = 0 := by
            have := (List.getElem?_eq_some_iff.1 hj).1
            simp at this
            exact this
          subst hj0
          have := hcell i (by omega)
          have h1 : W.cell? ⟨k0, s0 + i, none⟩ = some (.int k (zs.getD i 0)) := by
            simp only [Addr.add] at this
            split at this
            · rename_i hi0; subst hi0; exact this
            · exact this
          exact ⟨by rw [Nat.mul_one, Nat.add_zero]; exact h1, rfl, not_wr _ _⟩) (fun i j g c hi hj => by
          simp only [List.getElem?_map] at hi
          obtain ⟨n, hn, rfl⟩ := Option.map_eq_some_iff.1 hi
          have hj0 : j = 0 := by
            have := (List.getElem?_eq_some_iff.1 hj).1
            simp at this
            exact this
          subst hj0
          simp at hj
          subst hj
          have hil : i < len := by
            have := (List.getElem?_eq_some_iff.1 hn).1
            simp at this
            omega
          rw [List.getElem?_take_of_lt hil] at hn
          rw [List.getD, hn]
          exact .v _)
      rw [hlen] at this
      exact this
theorem bytes_of_ints {l : List Int} (h2 : ∀ n ∈ l, IntKind.min .u8 ≤ n ∧ n ≤ IntKind.max .u8) : bytesG (l.map fun n => UInt8.ofNat n.toNat) = l.map fun n => [AV.v (.int .u8 n)] := by
  unfold bytesG
  rw [List.map_map]
  refine List.map_congr_left fun n hn => ?_
  obtain ⟨g1, g2⟩ := h2 n hn
  simp only [IntKind.min, IntKind.max, IntKind.signed, IntKind.bits] at g1 g2
  have e : ((UInt8.ofNat n.toNat).toNat : Int) = n := by
    rw [UInt8.toNat_ofNat']
    simp at g1 g2
    omega
  simp only [Function.comp, e]
theorem repc_bytes {W : World} {t e : TypeId} {v : Value} {fuel : Nat} {x : DataW H × List MemPlace} (ht : P.underlying t = some (.slice e)) (he : P.underlying e = some (.int .u8)) (hc : P.cellsOf e = 1)
    (hf : DataW.trod enc P W 0 (fun _ => true) true fuel t [v] = some x) : ∃ bs : List UInt8, Rep W [] noP (.lst 1 (bytesG bs)) v ∧ bs.length ≤ 9223372036854775807 := by
  obtain ⟨l, h1, h2, h3⟩ := repc_nums ht he hc hf
  exact ⟨l.map fun n => UInt8.ofNat n.toNat, by rw [bytes_of_ints h2]; exact h1, by simpa using h3⟩
theorem repc_int {W : World} {t : TypeId} {k : IntKind} {v : Value} {fuel : Nat} {x : DataW H × List MemPlace} (ht : P.underlying t = some (.int k)) (hf : DataW.trod enc P W 0 (fun _ => true) true fuel t [v] = some x) :
    ∃ n, Rep W [] noP (.v (.int k n)) v ∧ k.min ≤ n ∧ n ≤ k.max := by
  obtain ⟨n, h, _, hw⟩ := DataW.trod_int ht hf
  injection h with h _
  subst h
  exact ⟨n, .v _, by simpa [Lit.wf] using hw⟩
theorem repc_string {W : World} {t : TypeId} {v : Value} {fuel : Nat} {x : DataW H × List MemPlace} (ht : P.underlying t = some .string) (hf : DataW.trod enc P W 0 (fun _ => true) true fuel t [v] = some x) :
    ∃ s : List UInt8, Rep W [] noP (.v (.string ⟨s.toArray⟩)) v ∧ s.length ≤ 9223372036854775807 := by
  obtain ⟨s, h, _, hs⟩ := DataW.trod_string ht hf
  injection h with h _
  subst h
  exact ⟨s.data.toList, .v _, by simpa [maxLen] using hs⟩
theorem rep_nums {W : World} {b0 : Nat} {t e : TypeId} {k : IntKind} {v : Value} {d : DataW H} {ps : List MemPlace} (ht : P.underlying t = some (.slice e)) (he : P.underlying e = some (.int k)) (hc : P.cellsOf e = 1)
    (hval : Value.okWide P W .any b0 t v) (hd : DataW.Trod enc P W 0 (fun _ => true) true t v d ps) : ∃ l : List Int, Rep W [] noP (.lst 1 (l.map fun n => [.v (.int k n)])) v ∧ ∀ n ∈ l, k.min ≤ n ∧ n ≤ k.max := by
  obtain ⟨a, len, cap, rfl⟩ := okWide_slice ht hval
  obtain ⟨fuel, hf⟩ := hd
  rcases Go.ChangeShapes.open_ints ht he hc hf with ⟨h, _⟩ | ⟨a', len', cap', zs, h, hb, hlc, hm, hzl, hx, hcell, hwf⟩
  · simp [Value.cells] at h
    obtain ⟨rfl, rfl, rfl⟩ := h
    exact ⟨[], .lst0 1 none 0, by simp⟩
  · simp [Value.cells] at h
    obtain ⟨rfl, rfl, rfl⟩ := h
    have hwf' : ∀ n ∈ zs, k.min ≤ n ∧ n ≤ k.max := fun n hn => by simpa [Lit.wf] using hwf n hn
    simp only [if_true] at hzl
    refine ⟨zs.take len, ?_, fun n hn => hwf' n (List.mem_of_mem_take hn)⟩
    rcases Nat.eq_zero_or_pos len with h0 | h0
    · subst h0
      exact .lst0 1 _ _
    · have hsp : a'.spot = none := by
        have := hcell 0 (by omega)
        unfold World.cell? at this
        split at this
        · cases hs : a'.spot with
          | none => rfl
          | some y => simp [Addr.add, hs] at this
        · cases this
      obtain ⟨k0, s0, sp⟩ := a'
      dsimp only at hsp
      subst hsp
      have hlen : ((zs.take len).map fun n => [AV.v (.int k n)]).length = len := by simp; omega
      have := Rep.lst (w := W) (H := []) (β := noP) 1 ((zs.take len).map fun n => [AV.v (.int k n)]) k0 s0 cap (fun i _ => .int k (zs.getD i 0)) (by omega) (fun i g hg => by
          simp only [List.getElem?_map] at hg
          obtain ⟨n, _, rfl⟩ := Option.map_eq_some_iff.1 hg
          rfl) (fun i j g c hi hj => by
          have hil := (List.getElem?_eq_some_iff.1 hi).1
          simp only [List.getElem?_map] at hi
          obtain ⟨n, hn, rfl⟩ := Option.map_eq_some_iff.1 hi
          have hj0 : j = 0 := by
            have := (List.getElem?_eq_some_iff.1 hj).1
            simp at this
            exact this
          subst hj0
          have := hcell i (by omega)
          have h1 : W.cell? ⟨k0, s0 + i, none⟩ = some (.int k (zs.getD i 0)) := by
            simp only [Addr.add] at this
            split at this
            · rename_i hi0; subst hi0; exact this
            · exact this
          exact ⟨by rw [Nat.mul_one, Nat.add_zero]; exact h1, rfl, not_wr _ _⟩) (fun i j g c hi hj => by
          simp only [List.getElem?_map] at hi
          obtain ⟨n, hn, rfl⟩ := Option.map_eq_some_iff.1 hi
          have hj0 : j = 0 := by
            have := (List.getElem?_eq_some_iff.1 hj).1
            simp at this
            exact this
          subst hj0
          simp at hj
          subst hj
          have hil : i < len := by
            have := (List.getElem?_eq_some_iff.1 hn).1
            simp at this
            omega
          rw [List.getElem?_take_of_lt hil] at hn
          rw [List.getD, hn]
          exact .v _)
      rw [hlen] at this
      exact this
theorem rep_bytes {W : World} {b0 : Nat} {t e : TypeId} {v : Value} {d : DataW H} {ps : List MemPlace} (ht : P.underlying t = some (.slice e)) (he : P.underlying e = some (.int .u8)) (hc : P.cellsOf e = 1)
    (hval : Value.okWide P W .any b0 t v) (hd : DataW.Trod enc P W 0 (fun _ => true) true t v d ps) : ∃ bs : List UInt8, Rep W [] noP (.lst 1 (bytesG bs)) v := by
  obtain ⟨l, h1, h2⟩ := rep_nums ht he hc hval hd
  refine ⟨l.map fun n => UInt8.ofNat n.toNat, ?_⟩
  have : bytesG (l.map fun n => UInt8.ofNat n.toNat) = l.map fun n => [AV.v (.int .u8 n)] := by
    unfold bytesG
    rw [List.map_map]
    refine List.map_congr_left fun n hn => ?_
    obtain ⟨g1, g2⟩ := h2 n hn
    simp only [IntKind.min, IntKind.max, IntKind.signed, IntKind.bits] at g1 g2
    have e : ((UInt8.ofNat n.toNat).toNat : Int) = n := by
      rw [UInt8.toNat_ofNat']
      simp at g1 g2
      omega
    simp only [Function.comp, e]
  rw [this]
  exact h1
theorem rep_int {W : World} {b0 : Nat} {t : TypeId} {k : IntKind} {v : Value} {d : DataW H} {ps : List MemPlace} (ht : P.underlying t = some (.int k)) (hval : Value.okWide P W .any b0 t v) (hd : DataW.Trod enc P W 0 (fun _ => true) true t v d ps) :
    ∃ n, Rep W [] noP (.v (.int k n)) v ∧ k.min ≤ n ∧ n ≤ k.max := by
  obtain ⟨n, rfl, _, _, hw⟩ := open_int ht hval hd
  exact ⟨n, .v _, by simpa [Lit.wf] using hw⟩
theorem rep_string {W : World} {b0 : Nat} {t : TypeId} {v : Value} {d : DataW H} {ps : List MemPlace} (ht : P.underlying t = some .string) (hval : Value.okWide P W .any b0 t v) (hd : DataW.Trod enc P W 0 (fun _ => true) true t v d ps) :
    ∃ s : List UInt8, Rep W [] noP (.v (.string ⟨s.toArray⟩)) v ∧ s.length ≤ 9223372036854775807 := by
  obtain ⟨s, rfl, _, _, hs⟩ := ChangeMaps.open_string ht hval hd
  exact ⟨s.data.toList, .v _, by simpa [maxLen] using hs⟩
end

end Go.Proofs.YtkkhbmpcpilmfaaDoor.VL

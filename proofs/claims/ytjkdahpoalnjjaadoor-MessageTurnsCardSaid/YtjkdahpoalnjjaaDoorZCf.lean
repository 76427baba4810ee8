/- The value logic, part 14: from a contract without boxes to a given row. -/
import Derived.Test.YtjkdahpoalnjjaaDoorZCc
import Derived.ProofKit
import Derived.Handed
import Derived.Carry
import Derived.JoinedOf
import Derived.Test.YtjkdahpoalnjjaaDoorZCd
import Derived.Lib.SmallJoins
import Derived.OpenShut
set_option linter.unusedVariables false
set_option linter.unusedSimpArgs false
namespace Go.Proofs.YtjkdahpoalnjjaaDoor.VL
open Go Go.RowKit Go.Lib Go.ChangeShapes Go.WideShapes

def noP : Pl := fun _ => none
theorem not_wr (k x : Nat) : ¬ Wr [] noP k x := by rintro ⟨i, bx, s, h, _⟩; simp at h
/-- Package variables that nobody writes lie as they were laid. -/
def Glob (w : World) : Prop := ∀ (g j : Nat) (v : Value), (gvals g)[j]? = some v → g < w.heap.size ∧ w.cell? ⟨g, j, none⟩ = some v ∧ v.oneCell' = true
theorem inv_nil (w : World) (hg : Glob w) : Inv w.heap.size w [] noP :=
  ⟨⟨Nat.le_refl _, hg⟩, fun i bx h => by simp at h, fun i bx h => by simp at h, fun i bx k s h => by simp at h, fun i bx k s h => by simp at h, fun k x h => absurd h (not_wr k x), fun i i' bx bx' k s s' x _ h => by simp at h⟩

theorem below_of_stp {w w' : World} {H' : List Box} {β' : Pl} (h : Stp w.heap.size w [] noP w' H' β') : Below w.heap.size w w' :=
  ⟨h.os, h.tape, h.output, h.size, fun k hk => by
    have hk' : k < w'.heap.size := Nat.lt_of_lt_of_le hk h.size
    rw [Array.getElem?_eq_getElem hk]
    cases ho : w.heap[k] with
    | cells c e fr =>
      have hs : w.heap[k]? = some (.cells c e fr) := by rw [Array.getElem?_eq_getElem hk, ho]
      obtain ⟨c', fr', h1, h2, h3, _⟩ := h.shape k c e fr hs
      rw [h1, h3 hk]
      have : c' = c := by
        apply Array.ext_getElem?
        intro j
        have := h.keep k j hk (not_wr k j)
        simpa [World.cell?, h1, hs] using this
      rw [this]
    | _ => exact h.other k _ (by rw [Array.getElem?_eq_getElem hk, ho]) (by intro c e fr hh; cases hh)⟩

section
variable {H : Type} {enc : TypeId × Value → H} {P : Program}

theorem trodAll_below (hl : laidOutB P = true) {W W' : World} (hb : Below W.heap.size W W') : ∀ (ts : List TypeId) (vs : List Value) (ds : List (DataW H)) (ps : List MemPlace), (∀ t ∈ ts, P.readableRec t = true ∧ t < P.types.size) → (∀ x ∈ ps, x.block < W.heap.size) →
    DataW.TrodAll enc P W 0 (fun _ => true) true ts vs ds ps → DataW.TrodAll enc P W' 0 (fun b => decide (b < W.heap.size)) true ts vs ds ps := by
  intro ts
  induction ts with
  | nil => intro vs ds ps _ _ h; obtain ⟨rfl, rfl, rfl⟩ := trodAll_nil h; trivial
  | cons t ts ih =>
    intro vs ds ps ht hlt h
    obtain ⟨v, vs', d, ds', p, q, rfl, rfl, rfl, h1, h2⟩ := trodAll_cons h
    have h3 := ht t (by simp)
    exact ⟨p, q, Below.trod hl h3.1 h3.2 h1 hb (fun x hx => hlt x (by simp [hx])), ih vs' ds' q (fun t h => ht t (by simp [h])) (fun x hx => hlt x (by simp [hx])) h2, rfl⟩

/-- A law that returns true, as its row has it. -/
theorem law_calls {f : FuncId} {fn : Func} {s : ChangeSpec} {apart fresh handsOn : Bool} {W : World} {args : Array Value} {ds gs : List (DataW H)} {before : List MemPlace} {tb : TypeId} {as : List AV}
    (hl : laidOutB P = true) (hts' : fn.params.toList.all (fun t => P.readableRec t && decide (t < P.types.size)) = true) (hv : s.vars = []) (hW : DataW.Whole enc P fn.params.toList s.vars apart W args.toList ds gs before)
    (hres : fn.resultTypes = #[tb]) (hub : P.underlying tb = some .bool) (hs : s.fn H (ds ++ gs) = { results := [.lit (.bool true)], args := ds })
    (hr : Reps W [] noP as args) (hc : ASpec P f as [] (fun o H' => o = .ret (.v (.bool true)) ∧ H' = [])) (hen : enters P f) (hgl : Glob W := by intro g j v h; simp [gvals] at h) :
    Calls P f args W fun e W' => ∃ v, e = .returned v ∧ s.post enc P fn apart fresh handsOn false W args v W' := by
  have hts : ∀ t ∈ fn.params.toList, P.readableRec t = true ∧ t < P.types.size := fun t ht => by
    have := List.all_eq_true.1 hts' t ht
    simpa using this
  have hcalls := (hc W.heap.size) W noP args (inv_nil W hgl) hr
  rcases hcalls with ⟨_, hcalls⟩ | ⟨v, w', h1, _⟩
  rotate_left
  · rw [hen args W] at h1
    cases h1
  refine hcalls.mono fun e W' ⟨out, H', β', hK, k2, k3, k4⟩ => ?_
  obtain ⟨rfl, rfl⟩ := hK
  cases e with
  | panicked c => exact k2.elim
  | outgrown => exact k2.elim
  | returned v =>
    cases k2
    have hB := below_of_stp k4
    have hW0 := hW
    obtain ⟨p, q, hA, hV, hpq, _⟩ := hW
    rw [hv] at hV
    obtain ⟨rfl, rfl⟩ := trodVars_none hV
    have hlt : ∀ x ∈ p, x.block < W.heap.size := fun x hx => hW0.lt x (by rw [hpq]; simp [hx])
    refine ⟨_, rfl, ds, [], before, [], p, [], hW0, ?_, ?_, ?_, hB.frame _, fun h => by cases h⟩
    · rw [hs, hres]
      exact trodAll_mk1 (shut_bool hub true)
    · rw [hs]
      exact trodAll_below hl hB _ _ _ _ hts hlt hA
    · rw [hs, hv]
      trivial

/-! ### Arguments -/
theorem reps_nil {w : World} : Reps w [] noP [] #[] := ⟨rfl, fun i c x h => by simp at h⟩
theorem reps_cons {w : World} {H0 : List Box} {β : Pl} {c : AV} {x : Value} {cs : List AV} {xs : List Value} (h : Rep w H0 β c x) (hs : Reps w H0 β cs xs.toArray) : Reps w H0 β (c :: cs) (x :: xs).toArray :=
  ⟨by have := hs.1; simp at this ⊢; exact this, fun i c' x' h1 h2 => by
    cases i with
    | zero => simp at h1 h2; subst h1; subst h2; exact h
    | succ i => exact hs.2 i c' x' (by simpa using h1) (by simpa using h2)⟩

/-- A slice of numbers of a kind, as an argument. -/
theorem repc_nums {W : World} {t e : TypeId} {k : IntKind} {v : Value} {fuel : Nat} {x : DataW H × List MemPlace} (ht : P.underlying t = some (.slice e)) (he : P.underlying e = some (.int k)) (hc : P.cellsOf e = 1)
    (hf : DataW.trod enc P W 0 (fun _ => true) true fuel t [v] = some x) : ∃ l : List Int, Rep W [] noP (.lst 1 (l.map fun n => [.v (.int k n)])) v ∧ (∀ n ∈ l, k.min ≤ n ∧ n ≤ k.max) ∧ l.length ≤ 9223372036854775807 := by
  rcases Go.ChangeShapes.open_ints ht he hc hf with ⟨h, _⟩ | ⟨a', len, cap, zs, h, hb, hlc, hm, hzl, hx, hcell, hwf⟩
  · injection h with h _
    subst h
    exact ⟨[], .lst0 1 none 0, by simp, by simp⟩
  · injection h with h _
    subst h
    have hwf' : ∀ n ∈ zs, k.min ≤ n ∧ n ≤ k.max := fun n hn => by simpa [Lit.wf] using hwf n hn
    simp only [if_true] at hzl
    refine ⟨zs.take len, ?_, fun n hn => hwf' n (List.mem_of_mem_take hn), by simp only [maxLen] at hm; simp; omega⟩
    rcases Nat.eq_zero_or_pos len with h0 | h0
    · subst h0
      exact .lst0 1 _ _
    · have hsp : a'.spot = none := by
        have := hcell 0 (by omega)
        unfold World.cell? at this
        split at this
        · cases hs : a'.spot with
          | none => rfl
          | some y => simp [Addr.add, hs] at this
        · cases this
      obtain ⟨k0, s0, sp⟩ := a'
      dsimp only at hsp
      subst hsp
      have hlen : ((zs.take len).map fun n => [AV.v (.int k n)]).length = len := by simp; omega
      have := Rep.lst (w := W) (H := []) (β := noP) 1 ((zs.take len).map fun n => [AV.v (.int k n)]) k0 s0 cap (fun i _ => .int k (zs.getD i 0)) (by omega) (fun i g hg => by
          simp only [List.getElem?_map] at hg
          obtain ⟨n, _, rfl⟩ := Option.map_eq_some_iff.1 hg
          rfl) (fun i j g c hi hj => by
          have hil := (List.getElem?_eq_some_iff.1 hi).1
          simp only [List.getElem?_map] at hi
          obtain ⟨n, hn, rfl⟩ := Option.map_eq_some_iff.1 hi
          have hj0 : j = 0 := by
            have := (List.getElem?_eq_some_iff.1 hj).1
            simp at this
            exact this
          subst hj0
          have := hcell i (by omega)
          have h1 : W.cell? ⟨k0, s0 + i, none⟩ = some (.int k (zs.getD i 0)) := by
            simp only [Addr.add] at this
            split at this
            · rename_i hi0; subst hi0; exact this
            · exact this
          exact ⟨by rw [Nat.mul_one, Nat.add_zero]; exact h1, rfl, not_wr _ _⟩) (fun i j g c hi hj => by
          simp only [List.getElem?_map] at hi
          obtain ⟨n, hn, rfl⟩ := Option.map_eq_some_iff.1 hi
          have hj0 : j = 0 := by
            have := (List.getElem?_eq_some_iff.1 hj).1
            simp at this
            exact this
          subst hj0
          simp at hj
          subst hj
          have hil : i < len := by
            have := (List.getElem?_eq_some_iff.1 hn).1
            simp at this
            omega
          rw [List.getElem?_take_of_lt hil] at hn
          rw [List.getD, hn]
          exact .v _)
      rw [hlen] at this
      exact this
theorem bytes_of_ints {l : List Int} (h2 : ∀ n ∈ l, IntKind.min .u8 ≤ n ∧ n ≤ IntKind.max .u8) : bytesG (l.map fun n => UInt8.ofNat n.toNat) = l.map fun n => [AV.v (.int .u8 n)] := by
  unfold bytesG
  rw [List.map_map]
  refine List.map_congr_left fun n hn => ?_
  obtain ⟨g1, g2⟩ := h2 n hn
  simp only [IntKind.min, IntKind.max, IntKind.signed, IntKind.bits] at g1 g2
  have e : ((UInt8.ofNat n.toNat).toNat : Int) = n := by
    rw [UInt8.toNat_ofNat']
    simp at g1 g2
    omega
  simp only [Function.comp, e]
theorem repc_bytes {W : World} {t e : TypeId} {v : Value} {fuel : Nat} {x : DataW H × List MemPlace} (ht : P.underlying t = some (.slice e)) (he : P.underlying e = some (.int .u8)) (hc : P.cellsOf e = 1)
    (hf : DataW.trod enc P W 0 (fun _ => true) true fuel t [v] = some x) : ∃ bs : List UInt8, Rep W [] noP (.lst 1 (bytesG bs)) v ∧ bs.length ≤ 9223372036854775807 := by
  obtain ⟨l, h1, h2, h3⟩ := repc_nums ht he hc hf
  exact ⟨l.map fun n => UInt8.ofNat n.toNat, by rw [bytes_of_ints h2]; exact h1, by simpa using h3⟩
theorem repc_int {W : World} {t : TypeId} {k : IntKind} {v : Value} {fuel : Nat} {x : DataW H × List MemPlace} (ht : P.underlying t = some (.int k)) (hf : DataW.trod enc P W 0 (fun _ => true) true fuel t [v] = some x) :
    ∃ n, Rep W [] noP (.v (.int k n)) v ∧ k.min ≤ n ∧ n ≤ k.max := by
  obtain ⟨n, h, _, hw⟩ := DataW.trod_int ht hf
  injection h with h _
  subst h
  exact ⟨n, .v _, by simpa [Lit.wf] using hw⟩
theorem repc_string {W : World} {t : TypeId} {v : Value} {fuel : Nat} {x : DataW H × List MemPlace} (ht : P.underlying t = some .string) (hf : DataW.trod enc P W 0 (fun _ => true) true fuel t [v] = some x) :
    ∃ s : List UInt8, Rep W [] noP (.v (.string ⟨s.toArray⟩)) v ∧ s.length ≤ 9223372036854775807 := by
  obtain ⟨s, h, _, hs⟩ := DataW.trod_string ht hf
  injection h with h _
  subst h
  exact ⟨s.data.toList, .v _, by simpa [maxLen] using hs⟩
theorem rep_nums {W : World} {b0 : Nat} {t e : TypeId} {k : IntKind} {v : Value} {d : DataW H} {ps : List MemPlace} (ht : P.underlying t = some (.slice e)) (he : P.underlying e = some (.int k)) (hc : P.cellsOf e = 1)
    (hval : Value.okWide P W .any b0 t v) (hd : DataW.Trod enc P W 0 (fun _ => true) true t v d ps) : ∃ l : List Int, Rep W [] noP (.lst 1 (l.map fun n => [.v (.int k n)])) v ∧ ∀ n ∈ l, k.min ≤ n ∧ n ≤ k.max := by
  obtain ⟨a, len, cap, rfl⟩ := okWide_slice ht hval
  obtain ⟨fuel, hf⟩ := hd
  rcases Go.ChangeShapes.open_ints ht he hc hf with ⟨h, _⟩ | ⟨a', len', cap', zs, h, hb, hlc, hm, hzl, hx, hcell, hwf⟩
  · simp [Value.cells] at h
    obtain ⟨rfl, rfl, rfl⟩ := h
    exact ⟨[], .lst0 1 none 0, by simp⟩
  · simp [Value.cells] at h
    obtain ⟨rfl, rfl, rfl⟩ := h
    have hwf' : ∀ n ∈ zs, k.min ≤ n ∧ n ≤ k.max := fun n hn => by simpa [Lit.wf] using hwf n hn
    simp only [if_true] at hzl
    refine ⟨zs.take len, ?_, fun n hn => hwf' n (List.mem_of_mem_take hn)⟩
    rcases Nat.eq_zero_or_pos len with h0 | h0
    · subst h0
      exact .lst0 1 _ _
    · have hsp : a'.spot = none := by
        have := hcell 0 (by omega)
        unfold World.cell? at this
        split at this
        · cases hs : a'.spot with
          | none => rfl
          | some y => simp [Addr.add, hs] at this
        · cases this
      obtain ⟨k0, s0, sp⟩ := a'
      dsimp only at hsp
      subst hsp
      have hlen : ((zs.take len).map fun n => [AV.v (.int k n)]).length = len := by simp; omega
      have := Rep.lst (w := W) (H := []) (β := noP) 1 ((zs.take len).map fun n => [AV.v (.int k n)]) k0 s0 cap (fun i _ => .int k (zs.getD i 0)) (by omega) (fun i g hg => by
          simp only [List.getElem?_map] at hg
          obtain ⟨n, _, rfl⟩ := Option.map_eq_some_iff.1 hg
          rfl) (fun i j g c hi hj => by
          have hil := (List.getElem?_eq_some_iff.1 hi).1
          simp only [List.getElem?_map] at hi
          obtain ⟨n, hn, rfl⟩ := Option.map_eq_some_iff.1 hi
          have hj0 : j = 0 := by
            have := (List.getElem?_eq_some_iff.1 hj).1
            simp at this
            exact this
          subst hj0
          have := hcell i (by omega)
          have h1 : W.cell? ⟨k0, s0 + i, none⟩ = some (.int k (zs.getD i 0)) := by
            simp only [Addr.add] at this
            split at this
            · rename_i hi0; subst hi0; exact this
            · exact this
          exact ⟨by rw [Nat.mul_one, Nat.add_zero]; exact h1, rfl, not_wr _ _⟩) (fun i j g c hi hj => by
          simp only [List.getElem?_map] at hi
          obtain ⟨n, hn, rfl⟩ := Option.map_eq_some_iff.1 hi
          have hj0 : j = 0 := by
            have := (List.getElem?_eq_some_iff.1 hj).1
            simp at this
            exact this
          subst hj0
          simp at hj
          subst hj
          have hil : i < len := by
            have := (List.getElem?_eq_some_iff.1 hn).1
            simp at this
            omega
          rw [List.getElem?_take_of_lt hil] at hn
          rw [List.getD, hn]
          exact .v _)
      rw [hlen] at this
      exact this
theorem rep_bytes {W : World} {b0 : Nat} {t e : TypeId} {v : Value} {d : DataW H} {ps : List MemPlace} (ht : P.underlying t = some (.slice e)) (he : P.underlying e = some (.int .u8)) (hc : P.cellsOf e = 1)
    (hval : Value.okWide P W .any b0 t v) (hd : DataW.Trod enc P W 0 (fun _ => true) true t v d ps) : ∃ bs : List UInt8, Rep W [] noP (.lst 1 (bytesG bs)) v := by
  obtain ⟨l, h1, h2⟩ := rep_nums ht he hc hval hd
  refine ⟨l.map fun n => UInt8.ofNat n.toNat, ?_⟩
  have : bytesG (l.map fun n => UInt8.ofNat n.toNat) = l.map fun n => [AV.v (.int .u8 n)] := by
    unfold bytesG
    rw [List.map_map]
    refine List.map_congr_left fun n hn => ?_
    obtain ⟨g1, g2⟩ := h2 n hn
    simp only [IntKind.min, IntKind.max, IntKind.signed, IntKind.bits] at g1 g2
    have e : ((UInt8.ofNat n.toNat).toNat : Int) = n := by
      rw [UInt8.toNat_ofNat']
      simp at g1 g2
      omega
    simp only [Function.comp, e]
  rw [this]
  exact h1
theorem rep_int {W : World} {b0 : Nat} {t : TypeId} {k : IntKind} {v : Value} {d : DataW H} {ps : List MemPlace} (ht : P.underlying t = some (.int k)) (hval : Value.okWide P W .any b0 t v) (hd : DataW.Trod enc P W 0 (fun _ => true) true t v d ps) :
    ∃ n, Rep W [] noP (.v (.int k n)) v ∧ k.min ≤ n ∧ n ≤ k.max := by
  obtain ⟨n, rfl, _, _, hw⟩ := open_int ht hval hd
  exact ⟨n, .v _, by simpa [Lit.wf] using hw⟩
theorem rep_string {W : World} {b0 : Nat} {t : TypeId} {v : Value} {d : DataW H} {ps : List MemPlace} (ht : P.underlying t = some .string) (hval : Value.okWide P W .any b0 t v) (hd : DataW.Trod enc P W 0 (fun _ => true) true t v d ps) :
    ∃ s : List UInt8, Rep W [] noP (.v (.string ⟨s.toArray⟩)) v ∧ s.length ≤ 9223372036854775807 := by
  obtain ⟨s, rfl, _, _, hs⟩ := ChangeMaps.open_string ht hval hd
  exact ⟨s.data.toList, .v _, by simpa [maxLen] using hs⟩
end

end Go.Proofs.YtjkdahpoalnjjaaDoor.VL

/- The value logic: slices among a law's arguments, whatever their elements. -/
set_option linter.unusedVariables false
set_option linter.unusedSimpArgs false
set_option linter.constructorNameAsVariable false
namespace Go.Proofs.YtjkdahpoalnjjaaDoor.VL
open Go Go.RowKit Go.Lib Go.ChangeShapes Go.WideShapes
variable {H : Type} {enc : TypeId × Value → H}

/-- Cells that are what abstract ones say, each one cell wide. -/
def CellsRep (W : World) (g : List AV) (cs : List Value) : Prop := g.length = cs.length ∧ ∀ (i : Nat) (c : AV) (v : Value), g[i]? = some c → cs[i]? = some v → v.oneCell' = true ∧ Rep W [] noP c v
theorem CellsRep.nil (W : World) : CellsRep W [] [] := ⟨rfl, fun i c v h => by simp at h⟩
theorem CellsRep.cons {W : World} {c : AV} {v : Value} {g : List AV} {cs : List Value} (h1 : v.oneCell' = true) (h2 : Rep W [] noP c v) (h : CellsRep W g cs) : CellsRep W (c :: g) (v :: cs) := by
  refine ⟨by simp [h.1], fun i c' v' hc hv => ?_⟩
  cases i with
  | zero => simp at hc hv; subst hc; subst hv; exact ⟨h1, h2⟩
  | succ i => exact h.2 i c' v' (by simpa using hc) (by simpa using hv)

theorem repc_rows {P : Program} {W : World} {t e : TypeId} {v : Value} {fuel : Nat} {x : DataW H × List MemPlace} {α : Type} (F : α → List AV) (OK : α → Prop) {sz : Nat} (ht : P.underlying t = some (.slice e)) (hce : P.cellsOf e = sz) (hsz : 0 < sz)
    (hel : ∀ (fuel : Nat) (cs : List Value) (y : DataW H × List MemPlace), cs.length = sz → DataW.trod enc P W 0 (fun _ => true) true fuel e cs = some y → ∃ a : α, OK a ∧ CellsRep W (F a) cs)
    (hf : DataW.trod enc P W 0 (fun _ => true) true fuel t [v] = some x) : ∃ l : List α, Rep W [] noP (.lst sz (l.map F)) v ∧ (∀ a ∈ l, OK a) ∧ l.length ≤ 9223372036854775807 := by
  rcases DataW.trod_slice ht hf with ⟨h, _⟩ | ⟨a, len, cap, elems, rest, n, _, h, _, _, hlc, hm, hel', hcells, _, _⟩
  · injection h with h _
    subst h
    exact ⟨[], .lst0 sz none 0, fun x hx => by simp at hx, by simp⟩
  · injection h with h _
    subst h
    have key : ∀ i, i < len → ∃ (y : α) (cs : List Value), OK y ∧ CellsRep W (F y) cs ∧ cs.length = sz ∧ ∀ j, j < sz → W.cell? ((a.add (i * sz)).add j) = cs[j]? := fun i hi => by
      have h1 := hcells i hi
      rw [List.getElem?_eq_getElem (by omega), hce] at h1
      obtain ⟨cs, h2, h3⟩ := Option.bind_eq_some_iff.1 h1
      obtain ⟨h4, h4', h5⟩ := World.cells?_some h2
      have hlen : cs.length = sz := by first | exact h4 | exact h4'
      obtain ⟨y, h6, h7⟩ := hel n cs _ hlen h3
      exact ⟨y, cs, h6, h7, hlen, fun j hj => h5 j hj⟩
    have hl : ∃ l : List α, l.length = len ∧ (∀ y ∈ l, OK y) ∧ ∀ i, i < len → ∃ (y : α) (cs : List Value), l[i]? = some y ∧ CellsRep W (F y) cs ∧ cs.length = sz ∧ ∀ j, j < sz → W.cell? ((a.add (i * sz)).add j) = cs[j]? := by
      have gen : ∀ m, m ≤ len → ∃ l : List α, l.length = m ∧ (∀ y ∈ l, OK y) ∧ ∀ i, i < m → ∃ (y : α) (cs : List Value), l[i]? = some y ∧ CellsRep W (F y) cs ∧ cs.length = sz ∧ ∀ j, j < sz → W.cell? ((a.add (i * sz)).add j) = cs[j]? := by
        intro m
        induction m with
        | zero => intro _; exact ⟨[], rfl, fun y hy => by simp at hy, fun i hi => by omega⟩
        | succ m ih =>
          intro hm
          obtain ⟨l, h1, h1', h2⟩ := ih (by omega)
          obtain ⟨y, cs, h3, h4, h5, h6⟩ := key m (by omega)
          refine ⟨l ++ [y], by simp [h1], fun z hz => ?_, fun i hi => ?_⟩
          · rcases List.mem_append.1 hz with hz | hz
            · exact h1' z hz
            · simp at hz; subst hz; exact h3
          · by_cases him : i = m
            · subst him
              exact ⟨y, cs, by rw [List.getElem?_append_right (by omega)]; simp [h1], h4, h5, h6⟩
            · obtain ⟨y', cs', h7, h8⟩ := h2 i (by omega)
              exact ⟨y', cs', by rw [List.getElem?_append_left (by omega)]; exact h7, h8⟩
      exact gen len (Nat.le_refl _)
    obtain ⟨l, hll, hok, hget⟩ := hl
    refine ⟨l, ?_, hok, by simp only [maxLen] at hm; omega⟩
    rcases Nat.eq_zero_or_pos len with h0 | h0
    · subst h0
      have : l = [] := List.eq_nil_of_length_eq_zero hll
      subst this
      exact .lst0 sz _ _
    · have hsp : a.spot = none := by
        obtain ⟨y, cs, _, _, h2, h3⟩ := hget 0 h0
        have h4 := h3 0 hsz
        rw [List.getElem?_eq_getElem (by omega)] at h4
        unfold World.cell? at h4
        split at h4
        · cases hs : a.spot with
          | none => rfl
          | some y => simp [Addr.add, hs] at h4
        · cases h4
      obtain ⟨k0, s0, sp⟩ := a
      dsimp only at hsp
      subst hsp
      have hcell : ∀ (i j : Nat) (g : List AV) (c : AV), (l.map F)[i]? = some g → g[j]? = some c → ∃ v, W.cell? ⟨k0, s0 + i * sz + j, none⟩ = some v ∧ v.oneCell' = true ∧ Rep W [] noP c v := fun i j g c hi hj => by
        simp only [List.getElem?_map] at hi
        obtain ⟨y, hy, rfl⟩ := Option.map_eq_some_iff.1 hi
        have hil := (List.getElem?_eq_some_iff.1 hy).1
        obtain ⟨y', cs, h1, h2, h3, h4⟩ := hget i (by omega)
        rw [hy] at h1
        injection h1 with h1
        subst h1
        have hjl := (List.getElem?_eq_some_iff.1 hj).1
        have hjs : j < sz := by rw [h2.1, h3] at hjl; exact hjl
        have h5 := h4 j hjs
        rw [List.getElem?_eq_getElem (by omega), add_plain, add_plain] at h5
        obtain ⟨h6, h7⟩ := h2.2 j c _ hj (List.getElem?_eq_getElem (by omega))
        exact ⟨_, h5, h6, h7⟩
      have := Rep.lst (w := W) (H := []) (β := noP) sz (l.map F) k0 s0 cap (fun i j => (W.cell? ⟨k0, s0 + i * sz + j, none⟩).getD undef) (by rw [List.length_map]; omega) (fun i g hg => by
          simp only [List.getElem?_map] at hg
          obtain ⟨y, hy, rfl⟩ := Option.map_eq_some_iff.1 hg
          have hil := (List.getElem?_eq_some_iff.1 hy).1
          obtain ⟨y', cs, h1, h2, h3, _⟩ := hget i (by omega)
          rw [hy] at h1
          injection h1 with h1
          subst h1
          exact h2.1.trans h3) (fun i j g c hi hj => by
          obtain ⟨v, h1, h2, _⟩ := hcell i j g c hi hj
          rw [h1]
          exact ⟨rfl, h2, not_wr _ _⟩) (fun i j g c hi hj => by
          obtain ⟨v, h1, _, h3⟩ := hcell i j g c hi hj
          rw [h1]
          exact h3)
      rw [List.length_map, hll] at this
      exact this

theorem repc_strs {P : Program} {W : World} {t e : TypeId} {v : Value} {fuel : Nat} {x : DataW H × List MemPlace} (ht : P.underlying t = some (.slice e)) (he : P.underlying e = some .string) (hc : P.cellsOf e = 1)
    (hf : DataW.trod enc P W 0 (fun _ => true) true fuel t [v] = some x) : ∃ l : List (List UInt8), Rep W [] noP (.lst 1 (strG l)) v ∧ (∀ s ∈ l, s.length ≤ 9223372036854775807) ∧ l.length ≤ 9223372036854775807 :=
  repc_rows (fun s : List UInt8 => [AV.v (.string ⟨s.toArray⟩)]) (fun s => s.length ≤ 9223372036854775807) ht hc (by decide) (fun fuel cs y hl hy => by
    match cs, hl with
    | [v], _ =>
      obtain ⟨s, h1, h2⟩ := repc_string he hy
      refine ⟨s, h2, .cons ?_ h1 (.nil _)⟩
      cases h1
      rfl) hf
theorem rep_strs {P : Program} {W : World} {b0 : Nat} {t e : TypeId} {v : Value} {d : DataW H} {ps : List MemPlace} (ht : P.underlying t = some (.slice e)) (he : P.underlying e = some .string) (hc : P.cellsOf e = 1)
    (hval : Value.okWide P W .any b0 t v) (hd : DataW.Trod enc P W 0 (fun _ => true) true t v d ps) : ∃ l : List (List UInt8), Rep W [] noP (.lst 1 (strG l)) v ∧ (∀ s ∈ l, s.length ≤ 9223372036854775807) ∧ l.length ≤ 9223372036854775807 := by
  obtain ⟨a, len, cap, rfl⟩ := okWide_slice ht hval
  obtain ⟨fuel, hf⟩ := hd
  exact repc_strs ht he hc hf

end Go.Proofs.YtjkdahpoalnjjaaDoor.VL

/- The value logic: what a law's arguments are, whatever their type: cells that are opened part by part. -/
set_option linter.unusedVariables false
set_option linter.unusedSimpArgs false
set_option linter.constructorNameAsVariable false
namespace Go.Proofs.YtjkdahpoalnjjaaDoor.VL
open Go Go.RowKit Go.Lib Go.ChangeShapes Go.WideShapes
variable {H : Type} {enc : TypeId × Value → H} {P : Program} {W : World}

theorem CellsRep.append {W : World} {g g' : List AV} {cs cs' : List Value} (h : CellsRep W g cs) (h' : CellsRep W g' cs') : CellsRep W (g ++ g') (cs ++ cs') := by
  refine ⟨by simp [h.1, h'.1], fun i c v hc hv => ?_⟩
  by_cases hi : i < g.length
  · rw [List.getElem?_append_left hi] at hc
    rw [List.getElem?_append_left (by have := h.1; omega)] at hv
    exact h.2 i c v hc hv
  · rw [List.getElem?_append_right (by omega)] at hc
    rw [List.getElem?_append_right (by have := h.1; omega)] at hv
    rw [← h.1] at hv
    exact h'.2 _ c v hc hv

/-- Cells of type t, n of them, are what F says of something that is OK. -/
def Opens (enc : TypeId × Value → H) (P : Program) (W : World) (t : TypeId) {α : Type} (n : Nat) (F : α → List AV) (OK : α → Prop) : Prop :=
  P.cellsOf t = n ∧ ∀ (fuel : Nat) (cs : List Value) (y : DataW H × List MemPlace), cs.length = n → DataW.trod enc P W 0 (fun _ => true) true fuel t cs = some y → ∃ a : α, OK a ∧ CellsRep W (F a) cs

theorem one_cell {cs : List Value} (h : cs.length = 1) : ∃ v, cs = [v] := by
  match cs, h with
  | [v], _ => exact ⟨v, rfl⟩

theorem Opens.int {t : TypeId} {k : IntKind} (ht : P.underlying t = some (.int k)) (hc : P.cellsOf t = 1) : Opens enc P W t 1 (fun n : Int => [AV.v (.int k n)]) (fun n => k.min ≤ n ∧ n ≤ k.max) :=
  ⟨hc, fun fuel cs y hl h => by
    obtain ⟨v, rfl⟩ := one_cell hl
    obtain ⟨n, h1, h2⟩ := repc_int ht h
    refine ⟨n, h2, .cons ?_ h1 (.nil _)⟩
    cases h1
    rfl⟩
theorem Opens.bool {t : TypeId} (ht : P.underlying t = some .bool) (hc : P.cellsOf t = 1) : Opens enc P W t 1 (fun b : Bool => [AV.v (.bool b)]) (fun _ => True) :=
  ⟨hc, fun fuel cs y hl h => by
    obtain ⟨v, rfl⟩ := one_cell hl
    obtain ⟨b, h1, _⟩ := DataW.trod_bool ht h
    injection h1 with h1 _
    subst h1
    exact ⟨b, trivial, .cons rfl (.v _) (.nil _)⟩⟩
theorem Opens.str {t : TypeId} (ht : P.underlying t = some .string) (hc : P.cellsOf t = 1) : Opens enc P W t 1 (fun s : List UInt8 => [AV.v (.string ⟨s.toArray⟩)]) (fun s => s.length ≤ 9223372036854775807) :=
  ⟨hc, fun fuel cs y hl h => by
    obtain ⟨v, rfl⟩ := one_cell hl
    obtain ⟨s, h1, h2⟩ := repc_string ht h
    refine ⟨s, h2, .cons ?_ h1 (.nil _)⟩
    cases h1
    rfl⟩
theorem slice_one {t e : TypeId} {v : Value} {fuel : Nat} {x : DataW H × List MemPlace} (ht : P.underlying t = some (.slice e)) (hf : DataW.trod enc P W 0 (fun _ => true) true fuel t [v] = some x) : v.oneCell' = true := by
  rcases DataW.trod_slice ht hf with ⟨h, _⟩ | ⟨a, len, cap, _, _, _, _, h, _⟩
  · injection h with h _; subst h; rfl
  · injection h with h _; subst h; rfl
theorem Opens.slice {t e : TypeId} {α : Type} {n : Nat} {F : α → List AV} {OK : α → Prop} (ht : P.underlying t = some (.slice e)) (hc : P.cellsOf t = 1) (hn : 0 < n) (h : Opens enc P W e n F OK) :
    Opens enc P W t 1 (fun l : List α => [AV.lst n (l.map F)]) (fun l => (∀ a ∈ l, OK a) ∧ l.length ≤ 9223372036854775807) :=
  ⟨hc, fun fuel cs y hl hf => by
    obtain ⟨v, rfl⟩ := one_cell hl
    obtain ⟨l, h1, h2, h3⟩ := repc_rows F OK ht h.1 hn (fun fuel cs y hl hy => h.2 fuel cs y hl hy) hf
    exact ⟨l, ⟨h2, h3⟩, .cons (slice_one ht hf) h1 (.nil _)⟩⟩
theorem Opens.bytes {t e : TypeId} (ht : P.underlying t = some (.slice e)) (he : P.underlying e = some (.int .u8)) (hc : P.cellsOf t = 1) (hce : P.cellsOf e = 1) :
    Opens enc P W t 1 (fun b : List UInt8 => [AV.lst 1 (bytesG b)]) (fun b => b.length ≤ 9223372036854775807) :=
  ⟨hc, fun fuel cs y hl hf => by
    obtain ⟨v, rfl⟩ := one_cell hl
    obtain ⟨bs, h1, h2⟩ := repc_bytes ht he hce hf
    exact ⟨bs, h2, .cons (slice_one ht hf) h1 (.nil _)⟩⟩
theorem cellsRep_parts {α : Type} (m : Nat) (F : α → List AV) (OK : α → Prop) : ∀ (n : Nat) (cs : List Value), cs.length = n * m → (∀ i, i < n → ∃ a, OK a ∧ CellsRep W (F a) ((cs.drop (i * m)).take m)) →
    ∃ l : List α, (l.length = n ∧ ∀ a ∈ l, OK a) ∧ CellsRep W (l.flatMap F) cs
  | 0, cs, hl, _ => ⟨[], ⟨rfl, by simp⟩, by
    rw [Nat.zero_mul] at hl
    rw [List.eq_nil_of_length_eq_zero hl]
    exact .nil _⟩
  | n + 1, cs, hl, h => by
    have hm : cs.length = m + n * m := by rw [hl, Nat.succ_mul]; omega
    obtain ⟨a, h1, h2⟩ := h 0 (by omega)
    rw [Nat.zero_mul, List.drop_zero] at h2
    obtain ⟨l, ⟨h3, h4⟩, h5⟩ := cellsRep_parts m F OK n (cs.drop m) (by rw [List.length_drop]; omega) (fun i hi => by
      obtain ⟨a, g1, g2⟩ := h (i + 1) (by omega)
      refine ⟨a, g1, ?_⟩
      rw [List.drop_drop, show m + i * m = (i + 1) * m by rw [Nat.succ_mul]; omega]
      exact g2)
    refine ⟨a :: l, ⟨by simp [h3], fun b hb => ?_⟩, ?_⟩
    · rcases List.mem_cons.1 hb with rfl | hb
      · exact h1
      · exact h4 b hb
    · rw [List.flatMap_cons]
      have := h2.append h5
      rwa [List.take_append_drop] at this
theorem Opens.arr {t e : TypeId} {α : Type} {n m k : Nat} {F : α → List AV} {OK : α → Prop} (ht : P.underlying t = some (.array n e)) (hc : P.cellsOf t = k) (hk : k = n * m) (h : Opens enc P W e m F OK) :
    Opens enc P W t k (fun l : List α => l.flatMap F) (fun l => l.length = n ∧ ∀ a ∈ l, OK a) :=
  ⟨hc, fun fuel cs y hl hf => by
    obtain ⟨xs, f, _, _, hl', hxl, hi⟩ := DataW.trod_array ht hf
    refine cellsRep_parts m F OK n cs (by rw [← hk]; omega) fun i hin => ?_
    have h1 := hi i hin
    rw [h.1, List.getElem?_eq_getElem (by omega)] at h1
    refine h.2 f _ _ ?_ h1
    have : (i + 1) * m ≤ n * m := Nat.mul_le_mul_right _ hin
    rw [Nat.succ_mul] at this
    rw [List.length_take, List.length_drop]
    omega⟩
theorem Opens.sec {t e : TypeId} (ht : P.underlying t = some (.array 64 e)) (he : P.underlying e = some (.int .u8)) (hc : P.cellsOf e = 1) (hct : P.cellsOf t = 64) :
    Opens enc P W t 64 bytesC (fun b => b.length = 64) :=
  ⟨hct, fun fuel cs y hl hf => by
    have h1 : Opens enc P W t 64 (fun l : List Int => l.flatMap fun n => [AV.v (.int .u8 n)]) _ := Opens.arr ht hct (by decide) (Opens.int he hc)
    obtain ⟨l, ⟨h2, h3⟩, h4⟩ := h1.2 fuel cs y hl hf
    refine ⟨l.map fun n => UInt8.ofNat n.toNat, by show (l.map _).length = 64; rw [List.length_map]; exact h2, ?_⟩
    have e : bytesC (l.map fun n => UInt8.ofNat n.toNat) = l.flatMap fun n => [AV.v (.int .u8 n)] := by
      clear h4 h2
      induction l with
      | nil => rfl
      | cons n l ih =>
        have hn := h3 n (by simp)
        simp [IntKind.min, IntKind.max, IntKind.signed, IntKind.bits] at hn
        have e2 : ((UInt8.ofNat n.toNat).toNat : Int) = n := by rw [UInt8.toNat_ofNat']; omega
        rw [List.flatMap_cons, ← ih (fun a ha => h3 a (by simp [ha]))]
        simp only [bytesC, List.map_cons, e2, List.singleton_append]
    rw [e]
    exact h4⟩

/-- Fields, from a cell on. -/
def OpensFs (enc : TypeId × Value → H) (P : Program) (W : World) (off : Nat) (fs : List Field) {α : Type} (n : Nat) (F : α → List AV) (OK : α → Prop) : Prop :=
  ∀ (fuel : Nat) (cs : List Value), cs.length = off + n → (∀ f ∈ fs, ∃ y, DataW.trod enc P W 0 (fun _ => true) true fuel f.type ((cs.drop f.offset).take (P.cellsOf f.type)) = some y) → ∃ a : α, OK a ∧ CellsRep W (F a) (cs.drop off)
theorem OpensFs.last {off : Nat} {f : Field} {α : Type} {n : Nat} {F : α → List AV} {OK : α → Prop} (ho : f.offset = off) (h : Opens enc P W f.type n F OK) : OpensFs enc P W off [f] n F OK := fun fuel cs hl hf => by
  obtain ⟨y, hy⟩ := hf f (by simp)
  rw [ho, h.1, List.take_of_length_le (by rw [List.length_drop]; omega)] at hy
  exact h.2 fuel _ y (by rw [List.length_drop]; omega) hy
theorem OpensFs.cons {off : Nat} {f : Field} {fs : List Field} {α β : Type} {n m : Nat} {F : α → List AV} {OK : α → Prop} {G : β → List AV} {OK' : β → Prop} (ho : f.offset = off) (h : Opens enc P W f.type n F OK) (h' : OpensFs enc P W (off + n) fs m G OK') :
    OpensFs enc P W off (f :: fs) (n + m) (fun p : α × β => F p.1 ++ G p.2) (fun p => OK p.1 ∧ OK' p.2) := fun fuel cs hl hf => by
  obtain ⟨y, hy⟩ := hf f (by simp)
  rw [ho, h.1] at hy
  obtain ⟨a, h1, h2⟩ := h.2 fuel _ y (by rw [List.length_take, List.length_drop]; omega) hy
  obtain ⟨b, h3, h4⟩ := h' fuel cs (by omega) (fun g hg => hf g (by simp [hg]))
  refine ⟨(a, b), ⟨h1, h3⟩, ?_⟩
  have := h2.append h4
  rw [← List.drop_drop, List.take_append_drop] at this
  exact this
theorem Opens.struct {t : TypeId} {fs : Array Field} {α : Type} {n : Nat} {F : α → List AV} {OK : α → Prop} (ht : P.underlying t = some (.struct fs)) (hc : P.cellsOf t = n) (h : OpensFs enc P W 0 fs.toList n F OK) : Opens enc P W t n F OK :=
  ⟨hc, fun fuel cs y hl hf => by
    obtain ⟨xs, m, _, rfl, hl', hlen, hi⟩ := DataW.trod_struct ht hf
    have := h m cs (by omega) (fun f hf => by
      obtain ⟨i, hi', he⟩ := List.mem_iff_getElem.1 hf
      have h1 := hi i f (by rw [← Array.getElem?_toList, List.getElem?_eq_getElem hi', he])
      rw [List.getElem?_eq_getElem (by simp at hi'; omega)] at h1
      exact ⟨_, h1⟩)
    rwa [List.drop_zero] at this⟩
theorem Opens.conv {t : TypeId} {α β : Type} {n : Nat} {F : α → List AV} {OK : α → Prop} {G : β → List AV} {OK' : β → Prop} (h : Opens enc P W t n F OK) (g : α → β) (hg : ∀ a, OK a → G (g a) = F a ∧ OK' (g a)) : Opens enc P W t n G OK' :=
  ⟨h.1, fun fuel cs y hl hf => by
    obtain ⟨a, h1, h2⟩ := h.2 fuel cs y hl hf
    obtain ⟨e, h3⟩ := hg a h1
    exact ⟨g a, h3, by rw [e]; exact h2⟩⟩
/-- A list of what is converted one by one. -/
theorem Opens.convL {t e : TypeId} {α β : Type} {n : Nat} {F : α → List AV} {OK : α → Prop} {G : β → List AV} {OK' : β → Prop} (h : Opens enc P W e n F OK) (g : α → β) (hg : ∀ a, OK a → G (g a) = F a ∧ OK' (g a)) : Opens enc P W e n G OK' := h.conv g hg

/-! ### A call's arguments -/
theorem Opens.agg {t : TypeId} {α : Type} {n : Nat} {F : α → List AV} {OK : α → Prop} (h : Opens enc P W t n F OK) (ha : (match P.underlying t with | some (.struct _) => true | some (.array _ _) => true | _ => false) = true) {b0 : Nat} {v : Value} {d : DataW H} {ps : List MemPlace}
    (hval : Value.okWide P W .any b0 t v) (hd : DataW.Trod enc P W 0 (fun _ => true) true t v d ps) : ∃ a : α, Rep W [] noP (.agg (F a)) v ∧ OK a := by
  have hcs : ∃ cs, v = .agg cs ∧ cs.size = P.cellsOf t := by
    unfold Value.okWide at hval
    split at hval
    · obtain ⟨cs, h1, h2, _⟩ := hval; exact ⟨cs, h1, h2⟩
    · obtain ⟨cs, h1, h2, _⟩ := hval; exact ⟨cs, h1, h2⟩
    · rename_i hn1 hn2
      split at ha
      · rename_i h1; exact absurd h1 (hn1 _)
      · rename_i h1; exact absurd h1 (hn2 _ _)
      · cases ha
  obtain ⟨cs, rfl, hsz⟩ := hcs
  obtain ⟨fuel, hf⟩ := hd
  obtain ⟨a, h1, h2⟩ := h.2 fuel _ _ (by simp only [Value.cells, Array.length_toList]; rw [hsz]; exact h.1) hf
  simp only [Value.cells] at h2
  refine ⟨a, .agg _ _ (by rw [h2.1, Array.length_toList]) fun i c x hc hx => ?_, h1⟩
  exact (h2.2 i c x hc (by rw [Array.getElem?_toList]; exact hx)).2
theorem Opens.one {t : TypeId} {α : Type} {F : α → AV} {OK : α → Prop} (h : Opens enc P W t 1 (fun a => [F a]) OK) {v : Value} {d : DataW H} {ps : List MemPlace} (hv : v.cells = #[v])
    (hd : DataW.Trod enc P W 0 (fun _ => true) true t v d ps) : ∃ a : α, Rep W [] noP (F a) v ∧ OK a := by
  obtain ⟨fuel, hf⟩ := hd
  rw [hv] at hf
  obtain ⟨a, h1, h2⟩ := h.2 fuel [v] _ rfl hf
  exact ⟨a, (h2.2 0 _ _ rfl rfl).2, h1⟩
theorem Opens.sl {t e : TypeId} {α : Type} {F : α → AV} {OK : α → Prop} (h : Opens enc P W t 1 (fun a => [F a]) OK) (ht : P.underlying t = some (.slice e)) {b0 : Nat} {v : Value} {d : DataW H} {ps : List MemPlace}
    (hval : Value.okWide P W .any b0 t v) (hd : DataW.Trod enc P W 0 (fun _ => true) true t v d ps) : ∃ a : α, Rep W [] noP (F a) v ∧ OK a := by
  obtain ⟨a, len, cap, rfl⟩ := okWide_slice ht hval
  exact h.one rfl hd

end Go.Proofs.YtjkdahpoalnjjaaDoor.VL

/- The value logic: slices among a law's arguments, whatever their elements. -/
import Derived.Test.YtnlmdeeadldgmaaGreatDoorZG35
import Derived.Test.YtnlmdeeadldgmaaGreatDoorZG16
import Derived.Lib.SmallJoins
import Derived.OpenShut
import Derived.Test.YtnlmdeeadldgmaaGreatDoorZG20
import Derived.Test.YtnlmdeeadldgmaaGreatDoorZG34
set_option linter.unusedVariables false
set_option linter.unusedSimpArgs false
set_option linter.constructorNameAsVariable false
namespace Go.Proofs.YtnlmdeeadldgmaaGreatDoor.VL
open Go Go.RowKit Go.Lib Go.ChangeShapes Go.WideShapes
variable {H : Type} {enc : TypeId × Value → H}

/-- Cells that are what abstract ones say, each one cell wide. -/
def CellsRep (W : World) (g : List AV) (cs : List Value) : Prop := g.length = cs.length ∧ ∀ (i : Nat) (c : AV) (v : Value), g[i]? = some c → cs[i]? = some v → v.oneCell' = true ∧ Rep W [] noP c v
theorem CellsRep.nil (W : World) : CellsRep W [] [] := ⟨rfl, fun i c v h => by simp at h⟩
theorem CellsRep.cons {W : World} {c : AV} {v : Value} {g : List AV} {cs : List Value} (h1 : v.oneCell' = true) (h2 : Rep W [] noP c v) (h : CellsRep W g cs) : CellsRep W (c :: g) (v :: cs) := by
  refine ⟨by simp [h.1], fun i c' v' hc hv => ?_⟩
  cases i with
  | zero => simp at hc hv; subst hc; subst hv; exact ⟨h1, h2⟩
  | succ i => exact h.2 i c' v' (by simpa using hc) (by simpa using hv)

theorem repc_rows {P : Program} {W : World} {t e : TypeId} {v : Value} {fuel : Nat} {x : DataW H × List MemPlace} {α : Type} (F : α → List AV) (OK : α → Prop) {sz : Nat} (ht : P.underlying t = some (.slice e)) (hce : P.cellsOf e = sz) (hsz : 0 < sz)
    (hel : ∀ (fuel : Nat) (cs : List Value) (y : DataW H × List MemPlace), cs.length = sz → DataW.trod enc P W 0 (fun _ => true) true fuel e cs = some y → ∃ a : α, OK a ∧ CellsRep W (F a) cs)
    (hf : DataW.trod enc P W 0 (fun _ => true) true fuel t [v] = some x) : ∃ l : List α, Rep W [] noP (.lst sz (l.map F)) v ∧ (∀ a ∈ l, OK a) ∧ l.length ≤ 9223372036854775807 := by
  rcases DataW.trod_slice ht hf with ⟨h, _⟩ | ⟨a, len, cap, elems, rest, n, _, h, _, _, hlc, hm, hel', hcells, _, _⟩
  · injection h with h _
    subst h
    exact ⟨[], .lst0 sz none 0, fun x hx => by simp at hx, by simp⟩
  · injection h with h _
    subst h
    have key : ∀ i, i < len → ∃ (y : α) (cs : List Value), OK y ∧ CellsRep W (F y) cs ∧ cs.length = sz ∧ ∀ j, j < sz → W.cell? ((a.add (i * sz)).add j) = cs[j]? := fun i hi => by
      have h1 := hcells i hi
      rw [List.getElem?_eq_getElem (by omega), hce] at h1
      obtain ⟨cs, h2, h3⟩ := Option.bind_eq_some_iff.1 h1
      obtain ⟨h4, h4', h5⟩ := World.cells?_some h2
      have hlen : cs.length = sz := by first | exact h4 | exact h4'
      obtain ⟨y, h6, h7⟩ := hel n cs _ hlen h3
      exact ⟨y, cs, h6, h7, hlen, fun j hj => h5 j hj⟩
    have hl : ∃ l : List α, l.length = len ∧ (∀ y ∈ l, OK y) ∧ ∀ i, i < len → ∃ (y : α) (cs : List Value), l[i]? = some y ∧ CellsRep W (F y) cs ∧ cs.length = sz ∧ ∀ j, j < sz → W.cell? ((a.add (i * sz)).add j) = cs[j]? := by
      have gen : ∀ m, m ≤ len → ∃ l : List α, l.length = m ∧ (∀ y ∈ l, OK y) ∧ ∀ i, i < m → ∃ (y : α) (cs : List Value), l[i]? = some y ∧ CellsRep W (F y) cs ∧ cs.length = sz ∧ ∀ j, j < sz → W.cell? ((a.add (i * sz)).add j) = cs[j]? := by
        intro m
        induction m with
        | zero => intro _; exact ⟨[], rfl, fun y hy => by simp at hy, fun i hi => by omega⟩
        | succ m ih =>
          intro hm
          obtain ⟨l, h1, h1', h2⟩ := ih (by omega)
          obtain ⟨y, cs, h3, h4, h5, h6⟩ := key m (by omega)
          refine ⟨l ++ [y], by simp [h1], fun z hz => ?_, fun i hi => ?_⟩
          · rcases List.mem_append.1 hz with hz | hz
            · exact h1' z hz
            · simp at hz; subst hz; exact h3
          · by_cases him : i = m
            · subst him
              exact ⟨y, cs, by rw [List.getElem?_append_right (by omega)]; simp [h1], h4, h5, h6⟩
            · obtain ⟨y', cs', h7, h8⟩ := h2 i (by omega)
              exact ⟨y', cs', by rw [List.getElem?_append_left (by omega)]; exact h7, h8⟩
      exact gen len (Nat.le_refl _)
    obtain ⟨l, hll, hok, hget⟩ := hl
    refine ⟨l, ?_, hok, by simp only [maxLen] at hm; omega⟩
    rcases Nat.eq_zero_or_pos len with h0 | h0
    · subst h0
      have : l = [] := List.eq_nil_of_length_eq_zero hll
      subst this
      exact .lst0 sz _ _
    · have hsp : a.spot = none := by
        obtain ⟨y, cs, _, _, h2, h3⟩ := hget 0 h0
        have h4 := h3 0 hsz
        rw [List.getElem?_eq_getElem (by omega)] at h4
        unfold World.cell? at h4
        split at h4
        · cases hs : a.spot with
          | none => rfl
          | some y => simp [Addr.add, hs] at h4
        · cases h4
      obtain ⟨k0, s0, sp⟩ := a
      dsimp only at hsp
      subst hsp
      have hcell : ∀ (i j : Nat) (g : List AV) (c : AV), (l.map F)[i]? = some g → g[j]? = some c → ∃ v, W.cell? ⟨k0, s0 + i * sz + j, none⟩ = some v ∧ v.oneCell' = true ∧ Rep W [] noP c v := fun i j g c hi hj => by
        simp only [List.getElem?_map] at hi
        obtain ⟨y, hy, rfl⟩ := Option.map_eq_some_iff.1 hi
        have hil := (List.getElem?_eq_some_iff.1 hy).1
        obtain ⟨y', cs, h1, h2, h3, h4⟩ := hget i (by omega)
        rw [hy] at h1
        injection h1 with h1
        subst h1
        have hjl := (List.getElem?_eq_some_iff.1 hj).1
        have hjs : j < sz := by rw [h2.1, h3] at hjl; exact hjl
        have h5 := h4 j hjs
        rw [List.getElem?_eq_getElem (by omega), add_plain, add_plain] at h5
        obtain ⟨h6, h7⟩ := h2.2 j c _ hj (List.getElem?_eq_getElem (by omega))
        exact ⟨_, h5, h6, h7⟩
      have := Rep.lst (w := W) (H := []) (β := noP) sz (l.map F) k0 s0 cap (fun i j => (W.cell? ⟨k0, s0 + i * sz + j, none⟩).getD undef) (by rw [List.length_map]; omega) (fun i g hg => by
          simp only [List.getElem?_map] at hg
          obtain ⟨y, hy, rfl⟩ := Option.map_eq_some_iff.1 hg
          have hil := (List.getElem?_eq_some_iff.1 hy).1
          obtain ⟨y', cs, h1, h2, h3, _⟩ := hget i (by omega)
          rw [hy] at h1
          injection h1 with h1
          subst h1
          exact h2.1.trans h3) (fun i j g c hi hj => by
          obtain ⟨v, h1, h2, _⟩ := hcell i j g c hi hj
          rw [h1]
          exact ⟨rfl, h2, not_wr _ _⟩) (fun i j g c hi hj => by
          obtain ⟨v, h1, _, h3⟩ := hcell i j g c hi hj
          rw [h1]
          exact h3)
      rw [List.length_map, hll] at this
      exact this

theorem repc_strs {P : Program} {W : World} {t e : TypeId} {v : Value} {fuel : Nat} {x : DataW H × List MemPlace} (ht : P.underlying t = some (.slice e)) (he : P.underlying e = some .string) (hc : P.cellsOf e = 1)
    (hf : DataW.trod enc P W 0 (fun _ => true) true fuel t [v] = some x) : ∃ l : List (List UInt8), Rep W [] noP (.lst 1 (strG l)) v ∧ (∀ s ∈ l, s.length ≤ 9223372036854775807) ∧ l.length ≤ 9223372036854775807 :=
  repc_rows (fun s : List UInt8 => [AV.v (.string ⟨s.toArray⟩)]) (fun s => s.length ≤ 9223372036854775807) ht hc (by decide) (fun fuel cs y hl hy => by
    match cs, hl with
    | [v], _ =>
      obtain ⟨s, h1, h2⟩ := repc_string he hy
      refine ⟨s, h2, .cons ?_ h1 (.nil _)⟩
      cases h1
      rfl) hf
theorem rep_strs {P : Program} {W : World} {b0 : Nat} {t e : TypeId} {v : Value} {d : DataW H} {ps : List MemPlace} (ht : P.underlying t = some (.slice e)) (he : P.underlying e = some .string) (hc : P.cellsOf e = 1)
    (hval : Value.okWide P W .any b0 t v) (hd : DataW.Trod enc P W 0 (fun _ => true) true t v d ps) : ∃ l : List (List UInt8), Rep W [] noP (.lst 1 (strG l)) v ∧ (∀ s ∈ l, s.length ≤ 9223372036854775807) ∧ l.length ≤ 9223372036854775807 := by
  obtain ⟨a, len, cap, rfl⟩ := okWide_slice ht hval
  obtain ⟨fuel, hf⟩ := hd
  exact repc_strs ht he hc hf

end Go.Proofs.YtnlmdeeadldgmaaGreatDoor.VL

/- The value logic: what a law's arguments are, whatever their type: cells that are opened part by part. -/
set_option linter.unusedVariables false
set_option linter.unusedSimpArgs false
set_option linter.constructorNameAsVariable false
namespace Go.Proofs.YtnlmdeeadldgmaaGreatDoor.VL
open Go Go.RowKit Go.Lib Go.ChangeShapes Go.WideShapes
variable {H : Type} {enc : TypeId × Value → H} {P : Program} {W : World}

theorem CellsRep.append {W : World} {g g' : List AV} {cs cs' : List Value} (h : CellsRep W g cs) (h' : CellsRep W g' cs') : CellsRep W (g ++ g') (cs ++ cs') := by
  refine ⟨by simp [h.1, h'.1], fun i c v hc hv => ?_⟩
  by_cases hi : i < g.length
  · rw [List.getElem?_append_left hi] at hc
    rw [List.getElem?_append_left (by have := h.1; omega)] at hv
    exact h.2 i c v hc hv
  · rw [List.getElem?_append_right (by omega)] at hc
    rw [List.getElem?_append_right (by have := h.1; omega)] at hv
    rw [← h.1] at hv
    exact h'.2 _ c v hc hv

/-- Cells of type t, n of them, are what F says of something that is OK. -/
def Opens (enc : TypeId × Value → H) (P : Program) (W : World) (t : TypeId) {α : Type} (n : Nat) (F : α → List AV) (OK : α → Prop) : Prop :=
  P.cellsOf t = n ∧ ∀ (fuel : Nat) (cs : List Value) (y : DataW H × List MemPlace), cs.length = n → DataW.trod enc P W 0 (fun _ => true) true fuel t cs = some y → ∃ a : α, OK a ∧ CellsRep W (F a) cs

theorem one_cell {cs : List Value} (h : cs.length = 1) : ∃ v, cs = [v] := by
  match cs, h with
  | [v], _ => exact ⟨v, rfl⟩

theorem Opens.int {t : TypeId} {k : IntKind} (ht : P.underlying t = some (.int k)) (hc : P.cellsOf t = 1) : Opens enc P W t 1 (fun n : Int => [AV.v (.int k n)]) (fun n => k.min ≤ n ∧ n ≤ k.max) :=
  ⟨hc, fun fuel cs y hl h => by
    obtain ⟨v, rfl⟩ := one_cell hl
    obtain ⟨n, h1, h2⟩ := repc_int ht h
    refine ⟨n, h2, .cons ?_ h1 (.nil _)⟩
    cases h1
    rfl⟩
theorem Opens.bool {t : TypeId} (ht : P.underlying t = some .bool) (hc : P.cellsOf t = 1) : Opens enc P W t 1 (fun b : Bool => [AV.v (.bool b)]) (fun _ => True) :=
  ⟨hc, fun fuel cs y hl h => by
    obtain ⟨v, rfl⟩ := one_cell hl
    obtain ⟨b, h1, _⟩ := DataW.trod_bool ht h
    injection h1 with h1 _
    subst h1
    exact ⟨b, trivial, .cons rfl (.v _) (.nil _)⟩⟩
theorem Opens.str {t : TypeId} (ht : P.underlying t = some .string) (hc : P.cellsOf t = 1) : Opens enc P W t 1 (fun s : List UInt8 => [AV.v (.string ⟨s.toArray⟩)]) (fun s => s.length ≤ 9223372036854775807) :=
  ⟨hc, fun fuel cs y hl h => by
    obtain ⟨v, rfl⟩ := one_cell hl
    obtain ⟨s, h1, h2⟩ := repc_string ht h
    refine ⟨s, h2, .cons ?_ h1 (.nil _)⟩
    cases h1
    rfl⟩
theorem slice_one {t e : TypeId} {v : Value} {fuel : Nat} {x : DataW H × List MemPlace} (ht : P.underlying t = some (.slice e)) (hf : DataW.trod enc P W 0 (fun _ => true) true fuel t [v] = some x) : v.oneCell' = true := by
  rcases DataW.trod_slice ht hf with ⟨h, _⟩ | ⟨a, len, cap, _, _, _, _, h, _⟩
  · injection h with h _; subst h; rfl
  · injection h with h _; subst h; rfl
theorem Opens.slice {t e : TypeId} {α : Type} {n : Nat} {F : α → List AV} {OK : α → Prop} (ht : P.underlying t = some (.slice e)) (hc : P.cellsOf t = 1) (hn : 0 < n) (h : Opens enc P W e n F OK) :
    Opens enc P W t 1 (fun l : List α => [AV.lst n (l.map F)]) (fun l => (∀ a ∈ l, OK a) ∧ l.length ≤ 9223372036854775807) :=
  ⟨hc, fun fuel cs y hl hf => by
    obtain ⟨v, rfl⟩ := one_cell hl
    obtain ⟨l, h1, h2, h3⟩ := repc_rows F OK ht h.1 hn (fun fuel cs y hl hy => h.2 fuel cs y hl hy) hf
    exact ⟨l, ⟨h2, h3⟩, .cons (slice_one ht hf) h1 (.nil _)⟩⟩
theorem Opens.bytes {t e : TypeId} (ht : P.underlying t = some (.slice e)) (he : P.underlying e = some (.int .u8)) (hc : P.cellsOf t = 1) (hce : P.cellsOf e = 1) :
    Opens enc P W t 1 (fun b : List UInt8 => [AV.lst 1 (bytesG b)]) (fun b => b.length ≤ 9223372036854775807) :=
  ⟨hc, fun fuel cs y hl hf => by
    obtain ⟨v, rfl⟩ := one_cell hl
    obtain ⟨bs, h1, h2⟩ := repc_bytes ht he hce hf
    exact ⟨bs, h2, .cons (slice_one ht hf) h1 (.nil _)⟩⟩
theorem cellsRep_parts {α : Type} (m : Nat) (F : α → List AV) (OK : α → Prop) : ∀ (n : Nat) (cs : List Value), cs.length = n * m → (∀ i, i < n → ∃ a, OK a ∧ CellsRep W (F a) ((cs.drop (i * m)).take m)) →
    ∃ l : List α, (l.length = n ∧ ∀ a ∈ l, OK a) ∧ CellsRep W (l.flatMap F) cs
  | 0, cs, hl, _ => ⟨[], ⟨rfl, by simp⟩, by
    rw [Nat.zero_mul] at hl
    rw [List.eq_nil_of_length_eq_zero hl]
    exact .nil _⟩
  | n + 1, cs, hl, h => by
    have hm : cs.length = m + n * m := by rw [hl, Nat.succ_mul]; omega
    obtain ⟨a, h1, h2⟩ := h 0 (by omega)
    rw [Nat.zero_mul, List.drop_zero] at h2
    obtain ⟨l, ⟨h3, h4⟩, h5⟩ := cellsRep_parts m F OK n (cs.drop m) (by rw [List.length_drop]; omega) (fun i hi => by
      obtain ⟨a, g1, g2⟩ := h (i + 1) (by omega)
      refine ⟨a, g1, ?_⟩
      rw [List.drop_drop, show m + i * m = (i + 1) * m by rw [Nat.succ_mul]; omega]
      exact g2)
    refine ⟨a :: l, ⟨by simp [h3], fun b hb => ?_⟩, ?_⟩
    · rcases List.mem_cons.1 hb with rfl | hb
      · exact h1
      · exact h4 b hb
    · rw [List.flatMap_cons]
      have := h2.append h5
      rwa [List.take_append_drop] at this
theorem Opens.arr {t e : TypeId} {α : Type} {n m k : Nat} {F : α → List AV} {OK : α → Prop} (ht : P.underlying t = some (.array n e)) (hc : P.cellsOf t = k) (hk : k = n * m) (h : Opens enc P W e m F OK) :
    Opens enc P W t k (fun l : List α => l.flatMap F) (fun l => l.length = n ∧ ∀ a ∈ l, OK a) :=
  ⟨hc, fun fuel cs y hl hf => by
    obtain ⟨xs, f, _, _, hl', hxl, hi⟩ := DataW.trod_array ht hf
    refine cellsRep_parts m F OK n cs (by rw [← hk]; omega) fun i hin => ?_
    have h1 := hi i hin
    rw [h.1, List.getElem?_eq_getElem (by omega)] at h1
    refine h.2 f _ _ ?_ h1
    have : (i + 1) * m ≤ n * m := Nat.mul_le_mul_right _ hin
    rw [Nat.succ_mul] at this
    rw [List.length_take, List.length_drop]
    omega⟩
theorem Opens.sec {t e : TypeId} (ht : P.underlying t = some (.array 64 e)) (he : P.underlying e = some (.int .u8)) (hc : P.cellsOf e = 1) (hct : P.cellsOf t = 64) :
    Opens enc P W t 64 bytesC (fun b => b.length = 64) :=
  ⟨hct, fun fuel cs y hl hf => by
    have h1 : Opens enc P W t 64 (fun l : List Int => l.flatMap fun n => [AV.v (.int .u8 n)]) _ := Opens.arr ht hct (by decide) (Opens.int he hc)
    obtain ⟨l, ⟨h2, h3⟩, h4⟩ := h1.2 fuel cs y hl hf
    refine ⟨l.map fun n => UInt8.ofNat n.toNat, by show (l.map _).length = 64; rw [List.length_map]; exact h2, ?_⟩
    have e : bytesC (l.map fun n => UInt8.ofNat n.toNat) = l.flatMap fun n => [AV.v (.int .u8 n)] := by
      clear h4 h2
      induction l with
      | nil => rfl
      | cons n l ih =>
        have hn := h3 n (by simp)
        simp [IntKind.min, IntKind.max, IntKind.signed, IntKind.bits] at hn
        have e2 : ((UInt8.ofNat n.toNat).toNat : Int) = n := by rw [UInt8.toNat_ofNat']; omega
        rw [List.flatMap_cons, ← ih (fun a ha => h3 a (by simp [ha]))]
        simp only [bytesC, List.map_cons, e2, List.singleton_append]
    rw [e]
    exact h4⟩

/-- Fields, from a cell on. -/
def OpensFs (enc : TypeId × Value → H) (P : Program) (W : World) (off : Nat) (fs : List Field) {α : Type} (n : Nat) (F : α → List AV) (OK : α → Prop) : Prop :=
  ∀ (fuel : Nat) (cs : List Value), cs.length = off + n → (∀ f ∈ fs, ∃ y, DataW.trod enc P W 0 (fun _ => true) true fuel f.type ((cs.drop f.offset).take (P.cellsOf f.type)) = some y) → ∃ a : α, OK a ∧ CellsRep W (F a) (cs.drop off)
theorem OpensFs.last {off : Nat} {f : Field} {α : Type} {n : Nat} {F : α → List AV} {OK : α → Prop} (ho : f.offset = off) (h : Opens enc P W f.type n F OK) : OpensFs enc P W off [f] n F OK := fun fuel cs hl hf => by
  obtain ⟨y, hy⟩ := hf f (by simp)
  rw [ho, h.1, List.take_of_length_le (by rw [List.length_drop]; omega)] at hy
  exact h.2 fuel _ y (by rw [List.length_drop]; omega) hy
theorem OpensFs.cons {off : Nat} {f : Field} {fs : List Field} {α β : Type} {n m : Nat} {F : α → List AV} {OK : α → Prop} {G : β → List AV} {OK' : β → Prop} (ho : f.offset = off) (h : Opens enc P W f.type n F OK) (h' : OpensFs enc P W (off + n) fs m G OK') :
    OpensFs enc P W off (f :: fs) (n + m) (fun p : α × β => F p.1 ++ G p.2) (fun p => OK p.1 ∧ OK' p.2) := fun fuel cs hl hf => by
  obtain ⟨y, hy⟩ := hf f (by simp)
  rw [ho, h.1] at hy
  obtain ⟨a, h1, h2⟩ := h.2 fuel _ y (by rw [List.length_take, List.length_drop]; omega) hy
  obtain ⟨b, h3, h4⟩ := h' fuel cs (by omega) (fun g hg => hf g (by simp [hg]))
  refine ⟨(a, b), ⟨h1, h3⟩, ?_⟩
  have := h2.append h4
  rw [← List.drop_drop, List.take_append_drop] at this
  exact this
theorem Opens.struct {t : TypeId} {fs : Array Field} {α : Type} {n : Nat} {F : α → List AV} {OK : α → Prop} (ht : P.underlying t = some (.struct fs)) (hc : P.cellsOf t = n) (h : OpensFs enc P W 0 fs.toList n F OK) : Opens enc P W t n F OK :=
  ⟨hc, fun fuel cs y hl hf => by
    obtain ⟨xs, m, _, rfl, hl', hlen, hi⟩ := DataW.trod_struct ht hf
    have := h m cs (by omega) (fun f hf => by
      obtain ⟨i, hi', he⟩ := List.mem_iff_getElem.1 hf
      have h1 := hi i f (by rw [← Array.getElem?_toList, List.getElem?_eq_getElem hi', he])
      rw [List.getElem?_eq_getElem (by simp at hi'; omega)] at h1
      exact ⟨_, h1⟩)
    rwa [List.drop_zero] at this⟩
theorem Opens.conv {t : TypeId} {α β : Type} {n : Nat} {F : α → List AV} {OK : α → Prop} {G : β → List AV} {OK' : β → Prop} (h : Opens enc P W t n F OK) (g : α → β) (hg : ∀ a, OK a → G (g a) = F a ∧ OK' (g a)) : Opens enc P W t n G OK' :=
  ⟨h.1, fun fuel cs y hl hf => by
    obtain ⟨a, h1, h2⟩ := h.2 fuel cs y hl hf
    obtain ⟨e, h3⟩ := hg a h1
    exact ⟨g a, h3, by rw [e]; exact h2⟩⟩
/-- A list of what is converted one by one. -/
theorem Opens.convL {t e : TypeId} {α β : Type} {n : Nat} {F : α → List AV} {OK : α → Prop} {G : β → List AV} {OK' : β → Prop} (h : Opens enc P W e n F OK) (g : α → β) (hg : ∀ a, OK a → G (g a) = F a ∧ OK' (g a)) : Opens enc P W e n G OK' := h.conv g hg

/-! ### A call's arguments -/
theorem Opens.agg {t : TypeId} {α : Type} {n : Nat} {F : α → List AV} {OK : α → Prop} (h : Opens enc P W t n F OK) (ha : (match P.underlying t with | some (.struct _) => true | some (.array _ _) => true | _ => false) = true) {b0 : Nat} {v : Value} {d : DataW H} {ps : List MemPlace}
    (hval : Value.okWide P W .any b0 t v) (hd : DataW.Trod enc P W 0 (fun _ => true) true t v d ps) : ∃ a : α, Rep W [] noP (.agg (F a)) v ∧ OK a := by
  have hcs : ∃ cs, v = .agg cs ∧ cs.size = P.cellsOf t := by
    unfold Value.okWide at hval
    split at hval
    · obtain ⟨cs, h1, h2, _⟩ := hval; exact ⟨cs, h1, h2⟩
    · obtain ⟨cs, h1, h2, _⟩ := hval; exact ⟨cs, h1, h2⟩
    · rename_i hn1 hn2
      split at ha
      · rename_i h1; exact absurd h1 (hn1 _)
      · rename_i h1; exact absurd h1 (hn2 _ _)
      · cases ha
  obtain ⟨cs, rfl, hsz⟩ := hcs
  obtain ⟨fuel, hf⟩ := hd
  obtain ⟨a, h1, h2⟩ := h.2 fuel _ _ (by simp only [Value.cells, Array.length_toList]; rw [hsz]; exact h.1) hf
  simp only [Value.cells] at h2
  refine ⟨a, .agg _ _ (by rw [h2.1, Array.length_toList]) fun i c x hc hx => ?_, h1⟩
  exact (h2.2 i c x hc (by rw [Array.getElem?_toList]; exact hx)).2
theorem Opens.one {t : TypeId} {α : Type} {F : α → AV} {OK : α → Prop} (h : Opens enc P W t 1 (fun a => [F a]) OK) {v : Value} {d : DataW H} {ps : List MemPlace} (hv : v.cells = #[v])
    (hd : DataW.Trod enc P W 0 (fun _ => true) true t v d ps) : ∃ a : α, Rep W [] noP (F a) v ∧ OK a := by
  obtain ⟨fuel, hf⟩ := hd
  rw [hv] at hf
  obtain ⟨a, h1, h2⟩ := h.2 fuel [v] _ rfl hf
  exact ⟨a, (h2.2 0 _ _ rfl rfl).2, h1⟩
theorem Opens.sl {t e : TypeId} {α : Type} {F : α → AV} {OK : α → Prop} (h : Opens enc P W t 1 (fun a => [F a]) OK) (ht : P.underlying t = some (.slice e)) {b0 : Nat} {v : Value} {d : DataW H} {ps : List MemPlace}
    (hval : Value.okWide P W .any b0 t v) (hd : DataW.Trod enc P W 0 (fun _ => true) true t v d ps) : ∃ a : α, Rep W [] noP (F a) v ∧ OK a := by
  obtain ⟨a, len, cap, rfl⟩ := okWide_slice ht hval
  exact h.one rfl hd

end Go.Proofs.YtnlmdeeadldgmaaGreatDoor.VL

/- Entries, and tables, among a law's arguments. -/
set_option linter.unusedVariables false
set_option linter.unusedSimpArgs false
set_option linter.constructorNameAsVariable false
set_option maxRecDepth 10000
namespace Go.Proofs.YtnlmdeeadldgmaaGreatDoor.VL
open Go Go.RowKit Go.Lib Go.ChangeShapes Go.WideShapes
variable {H : Type} {enc : TypeId × Value → H}

theorem opens_en {W : World} : Opens enc Tryz.prog W 48 3 enC (fun x => x.s.length ≤ 9223372036854775807) :=
  (Opens.struct Tryz.underlying48 (by kernel_rfl) (.cons rfl (.int Tryz.underlying3 (by kernel_rfl)) (.cons rfl (.int Tryz.underlying3 (by kernel_rfl)) (.last rfl (.str Tryz.underlying9 (by kernel_rfl)))))).conv
    (fun p => (⟨p.1, p.2.1, p.2.2⟩ : En)) (fun a h => ⟨rfl, h.2.2⟩)
theorem rep_ents {W : World} {b0 : Nat} {v : Value} {d : DataW H} {ps : List MemPlace} (hval : Value.okWide Tryz.prog W .any b0 42 v) (hd : DataW.Trod enc Tryz.prog W 0 (fun _ => true) true 42 v d ps) :
    ∃ l : List En, Rep W [] noP (.lst 3 (enG l)) v ∧ (∀ x ∈ l, x.s.length ≤ 9223372036854775807) ∧ l.length ≤ 9223372036854775807 :=
  (Opens.slice Tryz.underlying42 (by kernel_rfl) (by decide) opens_en).sl Tryz.underlying42 hval hd

end Go.Proofs.YtnlmdeeadldgmaaGreatDoor.VL

/- Scenes among a law's arguments. -/
set_option linter.unusedVariables false
set_option linter.unusedSimpArgs false
set_option linter.constructorNameAsVariable false
set_option maxRecDepth 10000
namespace Go.Proofs.YtnlmdeeadldgmaaGreatDoor.VL
open Go Go.RowKit Go.Lib Go.ChangeShapes Go.WideShapes
variable {H : Type} {enc : TypeId × Value → H}

/-- A scene as it is read: any sizes. -/
structure ScAny (s : Sc) : Prop where
  v : s.v.length ≤ 9223372036854775807
  n : ∀ x ∈ s.v, NdAny x
  a : s.a.length ≤ 9223372036854775807
  d : s.d.length ≤ 9223372036854775807
theorem opens_nd {W : World} : Opens enc Tryz.prog W 46 4 ndC NdAny :=
  (Opens.struct Tryz.underlying46 (by kernel_rfl) (.cons rfl (.int Tryz.underlying3 (by kernel_rfl)) (.last rfl
    (Opens.struct Tryz.underlying44 (by kernel_rfl) (.cons rfl (.int Tryz.underlying3 (by kernel_rfl)) (.cons rfl (.int Tryz.underlying3 (by kernel_rfl)) (.last rfl
      (Opens.slice Tryz.underlying42 (by kernel_rfl) (by decide) opens_en)))))))).conv
    (fun p => (⟨p.1, ⟨p.2.1, p.2.2.1, p.2.2.2⟩⟩ : Nd)) (fun a h => ⟨rfl, h.2.2.2.2, h.2.2.2.1⟩)
theorem opens_sc {W : World} : Opens enc Tryz.prog W 25 3 scC ScAny :=
  (Opens.struct Tryz.underlying25 (by kernel_rfl) (.cons rfl (Opens.slice Tryz.underlying22 (by kernel_rfl) (by decide) opens_nd)
    (.cons rfl (Opens.slice Tryz.underlying23 (by kernel_rfl) (by decide) (.int Tryz.underlying3 (by kernel_rfl))) (.last rfl (.str Tryz.underlying9 (by kernel_rfl)))))).conv
    (fun p => (⟨p.1, p.2.1, p.2.2⟩ : Sc)) (fun a h => ⟨rfl, h.1.2, h.1.1, h.2.1.2, h.2.2⟩)
theorem rep_sc {W : World} {b0 : Nat} {v : Value} {d : DataW H} {ps : List MemPlace} (hval : Value.okWide Tryz.prog W .any b0 25 v) (hd : DataW.Trod enc Tryz.prog W 0 (fun _ => true) true 25 v d ps) :
    ∃ s : Sc, Rep W [] noP (.agg (scC s)) v ∧ ScAny s :=
  opens_sc.agg (by kernel_rfl) hval hd

end Go.Proofs.YtnlmdeeadldgmaaGreatDoor.VL

/- Cells of boxes that hold slices: an empty one becomes one of a box of its own; one's own is only read from now on. -/
set_option linter.unusedVariables false
set_option linter.unusedSimpArgs false
namespace Go.Proofs.YtnlmdeeadldgmaaGreatDoor.VL
open Go Go.RowKit Go.Lib

/-- A cell says less. -/
theorem Coe.cell {E : Ent} {l : List (Nat × AV)} {H : List Box} {k j : Nat} {bx : Box} {c c' : AV} (hb : H[k]? = some bx) (hj : bx.cells[j]? = some c) (hw : ∀ (w : World) (β : Pl) (x : Value), Inv E.base w H β → Rep w H β c x → Rep w H β c' x) :
    Coe E ⟨l, H⟩ ⟨l, H.set k ⟨bx.cells.set j c', bx.ro, bx.gen, bx.grow⟩⟩ := fun a w ⟨β, hs⟩ => by
  have hI := hs.inv
  dsimp only at hI
  cases hβ : β k with
  | none =>
    have := hI.virt _ _ hb hβ
    simp [this] at hj
  | some p =>
    obtain ⟨k', s⟩ := p
    obtain ⟨q1, q2⟩ := hI.real _ _ _ _ hb hβ
    have hcells := hI.cells _ _ _ _ hb hβ
    obtain ⟨g1, g2⟩ := repl (w' := w) (bx' := ⟨bx.cells.set j c', bx.ro, bx.gen, bx.grow⟩) (k' := k') (s' := s) hI hb (Wor.refl _) (fun _ _ => False) (fun _ _ h => h.elim) (fun _ _ _ _ => rfl)
      ⟨q1, q2⟩ (by rw [List.length_set]; exact hI.ro _ _ hb) (.inr ⟨s, hβ, Nat.le_refl _, Nat.le_refl _, fun h => h, .inr (by rw [List.length_set]; exact Nat.le_refl _)⟩) (Nat.le_refl _) (fun _ => hβ) (fun h => by omega) (fun i c1 hi => by
        by_cases hij : i = j
        · subst hij
          dsimp only at hi
          rw [List.getElem?_set_self (List.getElem?_eq_some_iff.1 hj).1] at hi
          injection hi with hi
          subst hi
          obtain ⟨x, e1, e2, e3⟩ := hcells i _ hj
          exact ⟨x, e1, e2, hw _ _ _ hI e3⟩
        · dsimp only at hi
          rw [List.getElem?_set_ne (Ne.symm hij)] at hi
          exact hcells i _ hi)
    exact ⟨_, ⟨hs.defers, hs.size, g1, hs.stp.trans g2, fun t => (hs.tmps t).stp g2⟩⟩
/-- A box that holds nothing. -/
theorem Coe.newB {E : Ent} {l : List (Nat × AV)} {H : List Box} : Coe E ⟨l, H⟩ ⟨l, H ++ [(⟨[], 0, 0, true⟩ : Box)]⟩ := fun a w ⟨β, hs⟩ => by
  obtain ⟨h1, h2⟩ := newv hs.inv 0 0 rfl
  exact ⟨_, ⟨hs.defers, hs.size, h1, hs.stp.trans h2, fun t => (hs.tmps t).stp h2⟩⟩
theorem Coe.empCell {E : Ent} {l : List (Nat × AV)} {H : List Box} {k j : Nat} {bx : Box} (sz : Nat) (hb : H[k]? = some bx) (hj : bx.cells[j]? = some .emp) :
    Coe E ⟨l, H⟩ ⟨l, (H ++ [(⟨[], 0, 0, true⟩ : Box)]).set k ⟨bx.cells.set j (.sl H.length 0 0 0 sz false), bx.ro, bx.gen, bx.grow⟩⟩ :=
  Coe.trans (σ' := ⟨l, H ++ [(⟨[], 0, 0, true⟩ : Box)]⟩) Coe.newB (Coe.cell (H := H ++ [(⟨[], 0, 0, true⟩ : Box)]) (by rw [List.getElem?_append_left (List.getElem?_eq_some_iff.1 hb).1]; exact hb) hj fun w β x hI hr => by
    cases hr with
    | emp a => exact rep_sl (bx := ⟨[], 0, 0, true⟩) (by rw [List.getElem?_append_right (by omega)]; simp) rfl ⟨a, 0, rfl, Nat.le_refl _, by simp, fun hh => absurd hh (by omega)⟩)
theorem Coe.freezeCell {E : Ent} {l : List (Nat × AV)} {H : List Box} {k j m g n sz : Nat} {bx bm : Box} {G : List (List AV)} (hb : H[k]? = some bx) (hj : bx.cells[j]? = some (.sl m g 0 n sz false)) (hm : H[m]? = some bm) (hg : bm.gen = g) (hkm : k ≠ m) (hfit : n * sz ≤ bm.cells.length) (hG : chunk sz n bm.cells = G) :
    Coe E ⟨l, H⟩ ⟨l, (H.set m { bm with ro := max bm.ro (n * sz) }).set k ⟨bx.cells.set j (.lst sz G), bx.ro, bx.gen, bx.grow⟩⟩ :=
  Coe.trans (σ' := ⟨l, H.set m { bm with ro := max bm.ro (n * sz) }⟩) (fun a w ⟨β, hs⟩ => by
    obtain ⟨h1, h2⟩ := freeze_inv hs.inv hm hfit
    exact ⟨β, ⟨hs.defers, hs.size, h1, hs.stp.trans h2, fun t => (hs.tmps t).stp h2⟩⟩)
    (Coe.cell (by rw [List.getElem?_set_ne (Ne.symm hkm)]; exact hb) hj fun w β x hI hr => by
      have hv := rep_view (bx := { bm with ro := max bm.ro (n * sz) }) hI (List.getElem?_set_self (List.getElem?_eq_some_iff.1 hm).1) hg (by rw [Nat.zero_add]; exact Nat.le_max_right _ _) hr
      rwa [List.drop_zero, hG] at hv)

end Go.Proofs.YtnlmdeeadldgmaaGreatDoor.VL

/- Layer 18: what is told of a name. -/
-- STEPWISE
-- WK
-- OWN 3
-- TAILN 1 6
set_option linter.unusedVariables false
set_option linter.unusedSimpArgs false
set_option maxRecDepth 10000
namespace Go.Proofs.YtnlmdeeadldgmaaGreatDoor.VL
open Go Go.RowKit Go.Lib

def zrS (l : List Rr) : List AV := flat (rrG l)
theorem rrS_cons (x : Rr) (l : List Rr) : zrS (x :: l) = rrC x ++ zrS l := by simp [zrS, flat]
theorem rrS_app (l m : List Rr) : zrS (l ++ m) = zrS l ++ zrS m := by simp [zrS, flat]
theorem rrS_snoc (l : List Rr) (r : Rr) : zrS l ++ rrC r = zrS (l ++ [r]) := by rw [rrS_app]; rfl
theorem rrS_length : ∀ l : List Rr, (zrS l).length = l.length * 5
  | [] => rfl
  | x :: l => by rw [rrS_cons, List.length_append, rrS_length l, List.length_cons]; simp; omega
theorem chunk_rrS : ∀ l : List Rr, chunk 5 l.length (zrS l) = rrG l
  | [] => rfl
  | x :: l => by rw [rrS_cons]; simp only [List.length_cons, chunk]; rw [show (rrC x ++ zrS l).take 5 = rrC x from rfl, show (rrC x ++ zrS l).drop 5 = zrS l from rfl, chunk_rrS l]; rfl
theorem lt_rrS {n : Nat} {l : List Rr} {c : AV} (h : c ∈ zrS l) : Lt n c := by
  unfold zrS flat rrG at h
  rw [List.mem_flatten] at h
  obtain ⟨g, hg, hc⟩ := h
  obtain ⟨x, _, rfl⟩ := List.mem_map.1 hg
  simp only [List.mem_cons, List.not_mem_nil, or_false] at hc
  rcases hc with rfl | rfl | rfl | rfl | rfl <;> exact .v _

/-- The boxes of a telling. -/
abbrev tlM (k : Nat) (s : Sc) (name : List UInt8) (t : Int) (g : Nat) (acc : List Rr) (N : List Box) : List Box :=
  ⟨scC s, 0, 0, false⟩ :: ⟨[vs name], 0, 0, false⟩ :: ⟨[vi t], 0, 0, false⟩ :: ⟨[.sl (k + 4) g 0 acc.length 5 false], 0, 0, false⟩ :: ⟨zrS acc, 0, g, true⟩ :: N
theorem tell1_ok (s : Sc) (name : List UInt8) (t : Int) (g : Nat) (acc : List Rr) (N : List Box) (data : List UInt8) (ha : acc.length ≤ 1200000000000) (H : List Box) :
    ASpec Tryz.prog 67 [vs data, vb true, .ptr (H.length + 3) 0 0, .ptr (H.length + 1) 0 0, .ptr (H.length + 2) 0 0] (H ++ tlM H.length s name t g acc N) (fun o H' => o = .ret (.tup []) ∧ H' = H ++ tlM H.length s name t (g + 1) (acc ++ [toldN name t data]) N) := by
  have ht := fun H => told_spec name t data H
  have hsn : zrS acc ++ [vs name, vi t, vi 1, vi 5, vs data] = zrS (acc ++ [toldN name t data]) := rrS_snoc acc (toldN name t data)
  have hl : (acc ++ [toldN name t data]).length = acc.length + 1 := by simp
  have hrl := rrS_length acc
  unfold toldN at *
  generalize acc ++ [⟨name, t, 1, 5, data⟩] = acc' at *
  obtain ⟨v, a, d⟩ := s
  dsimp only [tlM] at *
  refine ASpec.enter Tryz.func67 rfl (fun a w => Tryz.call67 a w) Tryz.ntmps67 Tryz.results67 fun base w β hI => ?_
  refine wk (wA hsn (wA hrl wT)) (wA ht (wA ((OwnM.mk (id := 3))) (wA ((TnM.mk (id := 1) (n := 6))) (wA DrM.mk wT)))) ?_
  refine wkEnd wT ?_
  rw [hl]
  exact ⟨_, _, Shed.refl _ _ _, rfl, rfl⟩
theorem tell1_no (s : Sc) (name : List UInt8) (t : Int) (g : Nat) (acc : List Rr) (N : List Box) (data : List UInt8) (H : List Box) :
    ASpec Tryz.prog 67 [vs data, vb false, .ptr (H.length + 3) 0 0, .ptr (H.length + 1) 0 0, .ptr (H.length + 2) 0 0] (H ++ tlM H.length s name t g acc N) (fun o H' => o = .ret (.tup []) ∧ H' = H ++ tlM H.length s name t g acc N) := by
  refine ASpec.enter Tryz.func67 rfl (fun a w => Tryz.call67 a w) Tryz.ntmps67 Tryz.results67 fun base w β hI => ?_
  refine wk wT (wA ((OwnM.mk (id := 3))) (wA ((TnM.mk (id := 1) (n := 6))) (wA DrM.mk wT))) ?_
  refine wkEnd wT ?_
  exact ⟨_, _, Shed.refl _ _ _, rfl, rfl⟩

end Go.Proofs.YtnlmdeeadldgmaaGreatDoor.VL

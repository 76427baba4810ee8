/- The value logic: what a law's arguments are, whatever their type: cells that are opened part by part. -/
import Derived.Test.YtkkhbmpcpilmfaaDoorVLRows
set_option linter.unusedVariables false
set_option linter.unusedSimpArgs false
set_option linter.constructorNameAsVariable false
namespace Go.Proofs.YtkkhbmpcpilmfaaDoor.VL
open Go Go.RowKit Go.Lib Go.ChangeShapes Go.WideShapes
variable {H : Type} {enc : TypeId × Value → H} {P : Program} {W : World}

theorem CellsRep.append {W : World} {g g' : List AV} {cs cs' : List Value} (h : CellsRep W g cs) (h' : CellsRep W g' cs') : CellsRep W (g ++ g') (cs ++ cs') := by
  refine ⟨by simp [h.1, h'.1], fun i c v hc hv => ?_⟩
  by_cases hi : i < g.length
  · rw [List.getElem?_append_left hi] at hc
    rw [List.getElem?_append_left (by have := h.1; omega)] at hv
    exact h.2 i c v hc hv
  · rw [List.getElem?_append_right (by omega)] at hc
    rw [List.getElem?_append_right (by have := h.1; omega)] at hv
    rw [← h.1] at hv
    exact h'.2 _ c v hc hv

/-- Cells of type t, n of them, are what F says of something that is OK. -/
def Opens (enc : TypeId × Value → H) (P : Program) (W : World) (t : TypeId) {α : Type} (n : Nat) (F : α → List AV) (OK : α → Prop) : Prop :=
  P.cellsOf t = n ∧ ∀ (fuel : Nat) (cs : List Value) (y : DataW H × List MemPlace), cs.length = n → DataW.trod enc P W 0 (fun _ => true) true fuel t cs = some y → ∃ a : α, OK a ∧ CellsRep W (F a) cs

theorem one_cell {cs : List Value} (h : cs.length = 1) : ∃ v, cs = [v] := by
  match cs, h with
  | [v], _ => exact ⟨v, rfl⟩

theorem Opens.int {t : TypeId} {k : IntKind} (ht : P.underlying t = some (.int k)) (hc : P.cellsOf t = 1) : Opens enc P W t 1 (fun n : Int => [AV.v (.int k n)]) (fun n => k.min ≤ n ∧ n ≤ k.max) :=
  ⟨hc, fun fuel cs y hl h => by
    obtain ⟨v, rfl⟩ := one_cell hl
    obtain ⟨n, h1, h2⟩ := repc_int ht h
    refine ⟨n, h2, .cons ?_ h1 (.nil _)⟩
    cases h1
    rfl⟩
theorem Opens.bool {t : TypeId} (ht : P.underlying t = some .bool) (hc : P.cellsOf t = 1) : Opens enc P W t 1 (fun b : Bool => [AV.v (.bool b)]) (fun _ => True) :=
  ⟨hc, fun fuel cs y hl h => by
    obtain ⟨v, rfl⟩ := one_cell hl
    obtain ⟨b, h1, _⟩ := DataW.trod_bool ht h
    injection h1 with h1 _
    subst h1
    exact ⟨b, trivial, .cons rfl (.v _) (.nil _)⟩⟩
theorem Opens.str {t : TypeId} (ht : P.underlying t = some .string) (hc : P.cellsOf t = 1) : Opens enc P W t 1 (fun s : List UInt8 => [AV.v (.string ⟨s.toArray⟩)]) (fun s => s.length ≤ 9223372036854775807) :=
  ⟨hc, fun fuel cs y hl h => by
    obtain ⟨v, rfl⟩ := one_cell hl
    obtain ⟨s, h1, h2⟩ := repc_string ht h
    refine ⟨s, h2, .cons ?_ h1 (.nil _)⟩
    cases h1
    rfl⟩
theorem slice_one {t e : TypeId} {v : Value} {fuel : Nat} {x : DataW H × List MemPlace} (ht : P.underlying t = some (.slice e)) (hf : DataW.trod enc P W 0 (fun _ => true) true fuel t [v] = some x) : v.oneCell' = true := by
  rcases DataW.trod_slice ht hf with ⟨h, _⟩ | ⟨a, len, cap, _, _, _, _, h, _⟩
  · injection h with h _; subst h; rfl
  · injection h with h _; subst h; rfl
theorem Opens.slice {t e : TypeId} {α : Type} {n : Nat} {F : α → List AV} {OK : α → Prop} (ht : P.underlying t = some (.slice e)) (hc : P.cellsOf t = 1) (hn : 0 < n) (h : Opens enc P W e n F OK) :
    Opens enc P W t 1 (fun l : List α => [AV.lst n (l.map F)]) (fun l => (∀ a ∈ l, OK a) ∧ l.length ≤ 9223372036854775807) :=
  ⟨hc, fun fuel cs y hl hf => by
    obtain ⟨v, rfl⟩ := one_cell hl
    obtain ⟨l, h1, h2, h3⟩ := repc_rows F OK ht h.1 hn (fun fuel cs y hl hy => h.2 fuel cs y hl hy) hf
    exact ⟨l, ⟨h2, h3⟩, .cons (slice_one ht hf) h1 (.nil _)⟩⟩
theorem Opens.bytes {t e : TypeId} (ht : P.underlying t = some (.slice e)) (he : P.underlying e = some (.int .u8)) (hc : P.cellsOf t = 1) (hce : P.cellsOf e = 1) :
    Opens enc P W t 1 (fun b : List UInt8 => [AV.lst 1 (bytesG b)]) (fun b => b.length ≤ 9223372036854775807) :=
  ⟨hc, fun fuel cs y hl hf => by
    obtain ⟨v, rfl⟩ := one_cell hl
    obtain ⟨bs, h1, h2⟩ := repc_bytes ht he hce hf
    exact ⟨bs, h2, .cons (slice_one ht hf) h1 (.nil _)⟩⟩
theorem cellsRep_parts {α : Type} (m : Nat) (F : α → List AV) (OK : α → Prop) : ∀ (n : Nat) (cs : List Value), cs.length = n * m → (∀ i, i < n → ∃ a, OK a ∧ CellsRep W (F a) ((cs.drop (i * m)).take m)) →
    ∃ l : List α, (l.length = n ∧ ∀ a ∈ l, OK a) ∧ CellsRep W (l.flatMap F) cs
  | 0, cs, hl, _ => ⟨[], ⟨rfl, by simp⟩, by
    rw [Nat.zero_mul] at hl
    rw [List.eq_nil_of_length_eq_zero hl]
    exact .nil _⟩
  | n + 1, cs, hl, h => by
    have hm : cs.length = m + n * m := by rw [hl, Nat.succ_mul]; omega
    obtain ⟨a, h1, h2⟩ := h 0 (by omega)
    rw [Nat.zero_mul, List.drop_zero] at h2
    obtain ⟨l, ⟨h3, h4⟩, h5⟩ := cellsRep_parts m F OK n (cs.drop m) (by rw [List.length_drop]; omega) (fun i hi => by
      obtain ⟨a, g1, g2⟩ := h (i + 1) (by omega)
      refine ⟨a, g1, ?_⟩
      rw [List.drop_drop, show m + i * m = (i + 1) * m by rw [Nat.succ_mul]; omega]
      exact g2)
    refine ⟨a :: l, ⟨by simp [h3], fun b hb => ?_⟩, ?_⟩
    · rcases List.mem_cons.1 hb with rfl | hb
      · exact h1
      · exact h4 b hb
    · rw [List.flatMap_cons]
      have := h2.append h5
      rwa [List.take_append_drop] at this
theorem Opens.arr {t e : TypeId} {α : Type} {n m k : Nat} {F : α → List AV} {OK : α → Prop} (ht : P.underlying t = some (.array n e)) (hc : P.cellsOf t = k) (hk : k = n * m) (h : Opens enc P W e m F OK) :
    Opens enc P W t k (fun l : List α => l.flatMap F) (fun l => l.length = n ∧ ∀ a ∈ l, OK a) :=
  ⟨hc, fun fuel cs y hl hf => by
    obtain ⟨xs, f, _, _, hl', hxl, hi⟩ := DataW.trod_array ht hf
    refine cellsRep_parts m F OK n cs (by rw [← hk]; omega) fun i hin => ?_
    have h1 := hi i hin
    rw [h.1, List.getElem?_eq_getElem (by omega)] at h1
    refine h.2 f _ _ ?_ h1
    have : (i + 1) * m ≤ n * m := Nat.mul_le_mul_right _ hin
    rw [Nat.succ_mul] at this
    rw [List.length_take, List.length_drop]
    omega⟩
theorem Opens.sec {t e : TypeId} (ht : P.underlying t = some (.array 64 e)) (he : P.underlying e = some (.int .u8)) (hc : P.cellsOf e = 1) (hct : P.cellsOf t = 64) :
    Opens enc P W t 64 bytesC (fun b => b.length = 64) :=
  ⟨hct, fun fuel cs y hl hf => by
    have h1 : Opens enc P W t 64 (fun l : List Int => l.flatMap fun n => [AV.v (.int .u8 n)]) _ := Opens.arr ht hct (by decide) (Opens.int he hc)
    obtain ⟨l, ⟨h2, h3⟩, h4⟩ := h1.2 fuel cs y hl hf
    refine ⟨l.map fun n => UInt8.ofNat n.toNat, by show (l.map _).length = 64; rw [List.length_map]; exact h2, ?_⟩
    have e : bytesC (l.map fun n => UInt8.ofNat n.toNat) = l.flatMap fun n => [AV.v (.int .u8 n)] := by
      clear h4 h2
      induction l with
      | nil => rfl
      | cons n l ih =>
        have hn := h3 n (by simp)
        simp [IntKind.min, IntKind.max, IntKind.signed, IntKind.bits] at hn
        have e2 : ((UInt8.ofNat n.toNat).toNat : Int) = n := by rw [UInt8.toNat_ofNat']; omega
        rw [List.flatMap_cons, ← ih (fun a ha => h3 a (by simp [ha]))]
        simp only [bytesC, List.map_cons, e2, List.singleton_append]
    rw [e]
    exact h4⟩

/-- Fields, from a cell on. -/
def OpensFs (enc : TypeId × Value → H) (P : Program) (W : World) (off : Nat) (fs : List Field) {α : Type} (n : Nat) (F : α → List AV) (OK : α → Prop) : Prop :=
  ∀ (fuel : Nat) (cs : List Value), cs.length = off + n → (∀ f ∈ fs, ∃ y, DataW.trod enc P W 0 (fun _ => true) true fuel f.type ((cs.drop f.offset).take (P.cellsOf f.type)) = some y) → ∃ a : α, OK a ∧ CellsRep W (F a) (cs.drop off)
theorem OpensFs.last {off : Nat} {f : Field} {α : Type} {n : Nat} {F : α → List AV} {OK : α → Prop} (ho : f.offset = off) (h : Opens enc P W f.type n F OK) : OpensFs enc P W off [f] n F OK := fun fuel cs hl hf => by
  obtain ⟨y, hy⟩ := hf f (by simp)
  rw [ho, h.1, List.take_of_length_le (by rw [List.length_drop]; omega)] at hy
  exact h.2 fuel _ y (by rw [List.length_drop]; omega) hy
theorem OpensFs.cons {off : Nat} {f : Field} {fs : List Field} {α β : Type} {n m : Nat} {F : α → List AV} {OK : α → Prop} {G : β → List AV} {OK' : β → Prop} (ho : f.offset = off) (h : Opens enc P W f.type n F OK) (h' : OpensFs enc P W (off + n) fs m G OK') :
    OpensFs enc P W off (f :: fs) (n + m) (fun p : α × β => F p.1 ++ G p.2) (fun p => OK p.1 ∧ OK' p.2) := fun fuel cs hl hf => by
  obtain ⟨y, hy⟩ := hf f (by simp)
  rw [ho, h.1] at hy
  obtain ⟨a, h1, h2⟩ := h.2 fuel _ y (by rw [List.length_take, List.length_drop]; omega) hy
  obtain ⟨b, h3, h4⟩ := h' fuel cs (by omega) (fun g hg => hf g (by simp [hg]))
  refine ⟨(a, b), ⟨h1, h3⟩, ?_⟩
  have := h2.append h4
  rw [← List.drop_drop, List.take_append_drop] at this
  exact this
theorem Opens.struct {t : TypeId} {fs : Array Field} {α : Type} {n : Nat} {F : α → List AV} {OK : α → Prop} (ht : P.underlying t = some (.struct fs)) (hc : P.cellsOf t = n) (h : OpensFs enc P W 0 fs.toList n F OK) : Opens enc P W t n F OK :=
  ⟨hc, fun fuel cs y hl hf => by
    obtain ⟨xs, m, _, rfl, hl', hlen, hi⟩ := DataW.trod_struct ht hf
    have := h m cs (by omega) (fun f hf => by
      obtain ⟨i, hi', he⟩ := List.mem_iff_getElem.1 hf
      have h1 := hi i f (by rw [← Array.getElem?_toList, List.getElem?_eq_getElem hi', he])
      rw [List.getElem?_eq_getElem (by simp at hi'; omega)] at h1
      exact ⟨_, h1⟩)
    rwa [List.drop_zero] at this⟩
theorem Opens.conv {t : TypeId} {α β : Type} {n : Nat} {F : α → List AV} {OK : α → Prop} {G : β → List AV} {OK' : β → Prop} (h : Opens enc P W t n F OK) (g : α → β) (hg : ∀ a, OK a → G (g a) = F a ∧ OK' (g a)) : Opens enc P W t n G OK' :=
  ⟨h.1, fun fuel cs y hl hf => by
    obtain ⟨a, h1, h2⟩ := h.2 fuel cs y hl hf
    obtain ⟨e, h3⟩ := hg a h1
    exact ⟨g a, h3, by rw [e]; exact h2⟩⟩
/-- A list of what is converted one by one. -/
theorem Opens.convL {t e : TypeId} {α β : Type} {n : Nat} {F : α → List AV} {OK : α → Prop} {G : β → List AV} {OK' : β → Prop} (h : Opens enc P W e n F OK) (g : α → β) (hg : ∀ a, OK a → G (g a) = F a ∧ OK' (g a)) : Opens enc P W e n G OK' := h.conv g hg

/-! ### A call's arguments -/
theorem Opens.agg {t : TypeId} {α : Type} {n : Nat} {F : α → List AV} {OK : α → Prop} (h : Opens enc P W t n F OK) (ha : (match P.underlying t with | some (.struct _) => true | some (.array _ _) => true | _ => false) = true) {b0 : Nat} {v : Value} {d : DataW H} {ps : List MemPlace}
    (hval : Value.okWide P W .any b0 t v) (hd : DataW.Trod enc P W 0 (fun _ => true) true t v d ps) : ∃ a : α, Rep W [] noP (.agg (F a)) v ∧ OK a := by
  have hcs : ∃ cs, v = .agg cs ∧ cs.size = P.cellsOf t := by
    unfold Value.okWide at hval
    split at hval
    · obtain ⟨cs, h1, h2, _⟩ := hval; exact ⟨cs, h1, h2⟩
    · obtain ⟨cs, h1, h2, _⟩ := hval; exact ⟨cs, h1, h2⟩
    · rename_i hn1 hn2
      split at ha
      · rename_i h1; exact absurd h1 (hn1 _)
      · rename_i h1; exact absurd h1 (hn2 _ _)
      · cases ha
  obtain ⟨cs, rfl, hsz⟩ := hcs
  obtain ⟨fuel, hf⟩ := hd
  obtain ⟨a, h1, h2⟩ := h.2 fuel _ _ (by simp only [Value.cells, Array.length_toList]; rw [hsz]; exact h.1) hf
  simp only [Value.cells] at h2
  refine ⟨a, .agg _ _ (by rw [h2.1, Array.length_toList]) fun i c x hc hx => ?_, h1⟩
  exact (h2.2 i c x hc (by rw [Array.getElem?_toList]; exact hx)).2
theorem Opens.one {t : TypeId} {α : Type} {F : α → AV} {OK : α → Prop} (h : Opens enc P W t 1 (fun a => [F a]) OK) {v : Value} {d : DataW H} {ps : List MemPlace} (hv : v.cells = #[v])
    (hd : DataW.Trod enc P W 0 (fun _ => true) true t v d ps) : ∃ a : α, Rep W [] noP (F a) v ∧ OK a := by
  obtain ⟨fuel, hf⟩ := hd
  rw [hv] at hf
  obtain ⟨a, h1, h2⟩ := h.2 fuel [v] _ rfl hf
  exact ⟨a, (h2.2 0 _ _ rfl rfl).2, h1⟩
theorem Opens.sl {t e : TypeId} {α : Type} {F : α → AV} {OK : α → Prop} (h : Opens enc P W t 1 (fun a => [F a]) OK) (ht : P.underlying t = some (.slice e)) {b0 : Nat} {v : Value} {d : DataW H} {ps : List MemPlace}
    (hval : Value.okWide P W .any b0 t v) (hd : DataW.Trod enc P W 0 (fun _ => true) true t v d ps) : ∃ a : α, Rep W [] noP (F a) v ∧ OK a := by
  obtain ⟨a, len, cap, rfl⟩ := okWide_slice ht hval
  exact h.one rfl hd

end Go.Proofs.YtkkhbmpcpilmfaaDoor.VL

/- The value logic: what a law's arguments are, and how much: as VLOpen, with the bulk of what is read. -/
import Derived.Test.YtnoekcdmaaakfaaZCf
import Derived.Test.YtnoekcdmaaakfaaRows
set_option linter.unusedVariables false
set_option linter.unusedSimpArgs false
set_option linter.constructorNameAsVariable false
namespace Go.Proofs.Ytnoekcdmaaakfaa.VL
open Go Go.RowKit Go.Lib Go.ChangeShapes Go.WideShapes
variable {H : Type} {enc : TypeId × Value → H}

theorem bulkAll_app : ∀ (l m : List (DataW H)), Rows.uptoBulkAll (l ++ m) = Rows.uptoBulkAll l + Rows.uptoBulkAll m
  | [], m => by simp [Rows.uptoBulkAll]
  | d :: l, m => by rw [List.cons_append, Rows.uptoBulkAll, Rows.uptoBulkAll, bulkAll_app l m]; omega
theorem bulk_mem {l : List (DataW H)} {d : DataW H} (h : d ∈ l) : Rows.uptoBulk d ≤ Rows.uptoBulkAll l := by
  induction l with
  | nil => simp at h
  | cons x l ih =>
    rw [Rows.uptoBulkAll]
    rcases List.mem_cons.1 h with rfl | h
    · omega
    · have := ih h; omega

theorem repc_rowsB {P : Program} {W : World} {t e : TypeId} {v : Value} {fuel : Nat} {x : DataW H × List MemPlace} {α : Type} (F : α → List AV) (OK : α → Prop) (μ : α → Nat) {sz : Nat} (ht : P.underlying t = some (.slice e)) (hce : P.cellsOf e = sz) (hsz : 0 < sz)
    (hel : ∀ (fuel : Nat) (cs : List Value) (y : DataW H × List MemPlace), cs.length = sz → DataW.trod enc P W 0 (fun _ => true) true fuel e cs = some y → ∃ a : α, (OK a ∧ μ a ≤ Rows.uptoBulk y.1) ∧ CellsRep W (F a) cs)
    (hf : DataW.trod enc P W 0 (fun _ => true) true fuel t [v] = some x) : ∃ l : List α, Rep W [] noP (.lst sz (l.map F)) v ∧ (∀ a ∈ l, OK a) ∧ l.length ≤ 9223372036854775807 ∧ (l.map μ).sum + 1 ≤ Rows.uptoBulk x.1 := by
  rcases DataW.trod_slice ht hf with ⟨h, hx⟩ | ⟨a, len, cap, elems, rest, n, _, h, hx, _, hlc, hm, hel', hcells, _, _⟩
  · injection h with h _
    subst h
    exact ⟨[], .lst0 sz none 0, fun x hx => by simp at hx, by simp, by rw [hx]; simp [Rows.uptoBulk]⟩
  · injection h with h _
    subst h
    have key : ∀ i, i < len → ∃ (y : α) (cs : List Value), (OK y ∧ ∀ e, elems[i]? = some e → μ y ≤ Rows.uptoBulk e.1) ∧ CellsRep W (F y) cs ∧ cs.length = sz ∧ ∀ j, j < sz → W.cell? ((a.add (i * sz)).add j) = cs[j]? := fun i hi => by
      have h1 := hcells i hi
      rw [List.getElem?_eq_getElem (by omega), hce] at h1
      obtain ⟨cs, h2, h3⟩ := Option.bind_eq_some_iff.1 h1
      obtain ⟨h4, h4', h5⟩ := World.cells?_some h2
      have hlen : cs.length = sz := by first | exact h4 | exact h4'
      obtain ⟨y, h6, h7⟩ := hel n cs _ hlen h3
      exact ⟨y, cs, ⟨h6.1, fun e he => by rw [List.getElem?_eq_getElem (by omega)] at he; injection he with he; rw [← he]; exact h6.2⟩, h7, hlen, fun j hj => h5 j hj⟩
    have hl : ∃ l : List α, (l.length = len ∧ (l.map μ).sum ≤ Rows.uptoBulkAll ((elems.take len).map (·.1))) ∧ (∀ y ∈ l, OK y) ∧ ∀ i, i < len → ∃ (y : α) (cs : List Value), l[i]? = some y ∧ CellsRep W (F y) cs ∧ cs.length = sz ∧ ∀ j, j < sz → W.cell? ((a.add (i * sz)).add j) = cs[j]? := by
      have gen : ∀ m, m ≤ len → ∃ l : List α, (l.length = m ∧ (l.map μ).sum ≤ Rows.uptoBulkAll ((elems.take m).map (·.1))) ∧ (∀ y ∈ l, OK y) ∧ ∀ i, i < m → ∃ (y : α) (cs : List Value), l[i]? = some y ∧ CellsRep W (F y) cs ∧ cs.length = sz ∧ ∀ j, j < sz → W.cell? ((a.add (i * sz)).add j) = cs[j]? := by
        intro m
        induction m with
        | zero => intro _; exact ⟨[], ⟨rfl, by simp⟩, fun y hy => by simp at hy, fun i hi => by omega⟩
        | succ m ih =>
          intro hm
          obtain ⟨l, ⟨h1, hsum⟩, h1', h2⟩ := ih (by omega)
          obtain ⟨y, cs, h3, h4, h5, h6⟩ := key m (by omega)
          have hsum2 : ((l ++ [y]).map μ).sum ≤ Rows.uptoBulkAll ((elems.take (m + 1)).map (·.1)) := by
            have hme : m < elems.length := by omega
            have h9 := h3.2 elems[m] (List.getElem?_eq_getElem hme)
            rw [List.take_succ_eq_append_getElem hme]
            simp only [List.map_append, bulkAll_app, List.sum_append]
            simp only [List.map_cons, List.map_nil, List.sum_cons, List.sum_nil, Rows.uptoBulkAll]
            omega
          refine ⟨l ++ [y], ⟨by simp [h1], hsum2⟩, fun z hz => ?_, fun i hi => ?_⟩
          · rcases List.mem_append.1 hz with hz | hz
            · exact h1' z hz
            · simp at hz; subst hz; exact h3.1
          · by_cases him : i = m
            · subst him
              exact ⟨y, cs, by rw [List.getElem?_append_right (by omega)]; simp [h1], h4, h5, h6⟩
            · obtain ⟨y', cs', h7, h8⟩ := h2 i (by omega)
              exact ⟨y', cs', by rw [List.getElem?_append_left (by omega)]; exact h7, h8⟩
      exact gen len (Nat.le_refl _)
    obtain ⟨l, ⟨hll, hsm⟩, hok, hget⟩ := hl
    refine ⟨l, ?_, hok, by simp only [maxLen] at hm; omega, ?_⟩
    rotate_left
    · rw [List.take_of_length_le (by omega)] at hsm
      rw [hx]
      simp only [Rows.uptoBulk]
      omega
    rcases Nat.eq_zero_or_pos len with h0 | h0
    · subst h0
      have : l = [] := List.eq_nil_of_length_eq_zero hll
      subst this
      exact .lst0 sz _ _
    · have hsp : a.spot = none := by
        obtain ⟨y, cs, _, _, h2, h3⟩ := hget 0 h0
        have h4 := h3 0 hsz
        rw [List.getElem?_eq_getElem (by omega)] at h4
        unfold World.cell? at h4
        split at h4
        · cases hs : a.spot with
          | none => rfl
          | some y => simp [Addr.add, hs] at h4
        · cases h4
      obtain ⟨k0, s0, sp⟩ := a
      dsimp only at hsp
      subst hsp
      have hcell : ∀ (i j : Nat) (g : List AV) (c : AV), (l.map F)[i]? = some g → g[j]? = some c → ∃ v, W.cell? ⟨k0, s0 + i * sz + j, none⟩ = some v ∧ v.oneCell' = true ∧ Rep W [] noP c v := fun i j g c hi hj => by
        simp only [List.getElem?_map] at hi
        obtain ⟨y, hy, rfl⟩ := Option.map_eq_some_iff.1 hi
        have hil := (List.getElem?_eq_some_iff.1 hy).1
        obtain ⟨y', cs, h1, h2, h3, h4⟩ := hget i (by omega)
        rw [hy] at h1
        injection h1 with h1
        subst h1
        have hjl := (List.getElem?_eq_some_iff.1 hj).1
        have hjs : j < sz := by rw [h2.1, h3] at hjl; exact hjl
        have h5 := h4 j hjs
        rw [List.getElem?_eq_getElem (by omega), add_plain, add_plain] at h5
        obtain ⟨h6, h7⟩ := h2.2 j c _ hj (List.getElem?_eq_getElem (by omega))
        exact ⟨_, h5, h6, h7⟩
      have := Rep.lst (w := W) (H := []) (β := noP) sz (l.map F) k0 s0 cap (fun i j => (W.cell? ⟨k0, s0 + i * sz + j, none⟩).getD undef) (by rw [List.length_map]; omega) (fun i g hg => by
          simp only [List.getElem?_map] at hg
          obtain ⟨y, hy, rfl⟩ := Option.map_eq_some_iff.1 hg
          have hil := (List.getElem?_eq_some_iff.1 hy).1
          obtain ⟨y', cs, h1, h2, h3, _⟩ := hget i (by omega)
          rw [hy] at h1
          injection h1 with h1
          subst h1
          exact h2.1.trans h3) (fun i j g c hi hj => by
          obtain ⟨v, h1, h2, _⟩ := hcell i j g c hi hj
          rw [h1]
          exact ⟨rfl, h2, not_wr _ _⟩) (fun i j g c hi hj => by
          obtain ⟨v, h1, _, h3⟩ := hcell i j g c hi hj
          rw [h1]
          exact h3)
      rw [List.length_map, hll] at this
      exact this

variable {P : Program} {W : World}
/-- Cells of type t, n of them, are what F says of something that is OK; how much of it there is. -/
def OpensB (enc : TypeId × Value → H) (P : Program) (W : World) (t : TypeId) {α : Type} (n : Nat) (F : α → List AV) (OK : α → Prop) (μ : α → Nat) : Prop :=
  P.cellsOf t = n ∧ ∀ (fuel : Nat) (cs : List Value) (y : DataW H × List MemPlace), cs.length = n → DataW.trod enc P W 0 (fun _ => true) true fuel t cs = some y → ∃ a : α, (OK a ∧ μ a ≤ Rows.uptoBulk y.1) ∧ CellsRep W (F a) cs
theorem OpensB.of {t : TypeId} {α : Type} {n : Nat} {F : α → List AV} {OK : α → Prop} (h : Opens enc P W t n F OK) : OpensB enc P W t n F OK (fun _ => 0) :=
  ⟨h.1, fun fuel cs y hl hf => by
    obtain ⟨a, h1, h2⟩ := h.2 fuel cs y hl hf
    exact ⟨a, ⟨h1, Nat.zero_le _⟩, h2⟩⟩
theorem OpensB.str {t : TypeId} (ht : P.underlying t = some .string) (hc : P.cellsOf t = 1) : OpensB enc P W t 1 (fun s : List UInt8 => [AV.v (.string ⟨s.toArray⟩)]) (fun _ => True) (fun s => s.length + 1) :=
  ⟨hc, fun fuel cs y hl h => by
    obtain ⟨v, rfl⟩ := one_cell hl
    obtain ⟨s, h1, hy, h2⟩ := DataW.trod_string ht h
    injection h1 with h1 _
    subst h1
    exact ⟨s.data.toList, ⟨trivial, by rw [hy]; simp [Rows.uptoBulk]⟩, .cons rfl (.v _) (.nil _)⟩⟩
theorem OpensB.slice {t e : TypeId} {α : Type} {n : Nat} {F : α → List AV} {OK : α → Prop} {μ : α → Nat} (ht : P.underlying t = some (.slice e)) (hc : P.cellsOf t = 1) (hn : 0 < n) (h : OpensB enc P W e n F OK μ) :
    OpensB enc P W t 1 (fun l : List α => [AV.lst n (l.map F)]) (fun l => ∀ a ∈ l, OK a) (fun l => (l.map μ).sum + 1) :=
  ⟨hc, fun fuel cs y hl hf => by
    obtain ⟨v, rfl⟩ := one_cell hl
    obtain ⟨l, h1, h2, h3, h4⟩ := repc_rowsB F OK μ ht h.1 hn (fun fuel cs y hl hy => h.2 fuel cs y hl hy) hf
    exact ⟨l, ⟨h2, h4⟩, .cons (slice_one ht hf) h1 (.nil _)⟩⟩
theorem OpensB.one8 {t : TypeId} (ht : P.underlying t = some (.int .u8)) (hc : P.cellsOf t = 1) : OpensB enc P W t 1 (fun n : Int => [AV.v (.int .u8 n)]) (fun n => IntKind.u8.min ≤ n ∧ n ≤ IntKind.u8.max) (fun _ => 1) :=
  ⟨hc, fun fuel cs y hl hf => by
    obtain ⟨a, h1, h2⟩ := (Opens.int (enc := enc) (P := P) (W := W) ht hc).2 fuel cs y hl hf
    obtain ⟨v, rfl⟩ := one_cell hl
    obtain ⟨n, _, hy, _⟩ := DataW.trod_int ht hf
    exact ⟨a, ⟨h1, by rw [hy]; simp [Rows.uptoBulk]⟩, h2⟩⟩
theorem OpensB.conv {t : TypeId} {α β : Type} {n : Nat} {F : α → List AV} {OK : α → Prop} {μ : α → Nat} {G : β → List AV} {OK' : β → Prop} {ν : β → Nat} (h : OpensB enc P W t n F OK μ) (g : α → β) (hg : ∀ a, OK a → G (g a) = F a ∧ OK' (g a) ∧ ν (g a) ≤ μ a) : OpensB enc P W t n G OK' ν :=
  ⟨h.1, fun fuel cs y hl hf => by
    obtain ⟨a, ⟨h1, h1'⟩, h2⟩ := h.2 fuel cs y hl hf
    obtain ⟨e, h3, h4⟩ := hg a h1
    exact ⟨g a, ⟨h3, by omega⟩, by rw [e]; exact h2⟩⟩
theorem OpensB.bytes {t e : TypeId} (ht : P.underlying t = some (.slice e)) (he : P.underlying e = some (.int .u8)) (hc : P.cellsOf t = 1) (hce : P.cellsOf e = 1) :
    OpensB enc P W t 1 (fun b : List UInt8 => [AV.lst 1 (bytesG b)]) (fun _ => True) (fun b => b.length + 1) :=
  (OpensB.slice ht hc (by decide) (OpensB.one8 he hce)).conv (fun l => l.map fun n => UInt8.ofNat n.toNat) (fun l hl => by
    refine ⟨?_, trivial, ?_⟩
    · rw [bytes_of_ints hl]
    · simp only [List.length_map]
      have : ∀ l : List Int, (l.map fun _ => 1).sum = l.length := fun l => by
        induction l with
        | nil => rfl
        | cons a l ih => rw [List.map_cons, List.sum_cons, ih, List.length_cons]; omega
      rw [this]
      exact Nat.le_refl _)
/-- Fields, from a cell on. -/
def OpensBFs (enc : TypeId × Value → H) (P : Program) (W : World) (off : Nat) (fs : List Field) {α : Type} (n : Nat) (F : α → List AV) (OK : α → Prop) (μ : α → Nat) : Prop :=
  ∀ (fuel : Nat) (cs : List Value) (ys : List (DataW H × List MemPlace)), cs.length = off + n → ys.length = fs.length → (∀ (i : Nat) (f : Field), fs[i]? = some f → DataW.trod enc P W 0 (fun _ => true) true fuel f.type ((cs.drop f.offset).take (P.cellsOf f.type)) = ys[i]?) → ∃ a : α, (OK a ∧ μ a ≤ Rows.uptoBulkAll (ys.map (·.1))) ∧ CellsRep W (F a) (cs.drop off)
theorem OpensBFs.last {off : Nat} {f : Field} {α : Type} {n : Nat} {F : α → List AV} {OK : α → Prop} {μ : α → Nat} (ho : f.offset = off) (h : OpensB enc P W f.type n F OK μ) : OpensBFs enc P W off [f] n F OK μ := fun fuel cs ys hl hy hf => by
  match ys, hy with
  | [y], _ =>
    have hy := hf 0 f rfl
    simp only [List.getElem?_cons_zero] at hy
    rw [ho, h.1, List.take_of_length_le (by rw [List.length_drop]; omega)] at hy
    obtain ⟨a, ⟨h1, h2⟩, h3⟩ := h.2 fuel _ y (by rw [List.length_drop]; omega) hy
    exact ⟨a, ⟨h1, by simp [Rows.uptoBulkAll]; omega⟩, h3⟩
theorem OpensBFs.cons {off : Nat} {f : Field} {fs : List Field} {α β : Type} {n m : Nat} {F : α → List AV} {OK : α → Prop} {μ : α → Nat} {G : β → List AV} {OK' : β → Prop} {ν : β → Nat} (ho : f.offset = off) (h : OpensB enc P W f.type n F OK μ) (h' : OpensBFs enc P W (off + n) fs m G OK' ν) :
    OpensBFs enc P W off (f :: fs) (n + m) (fun p : α × β => F p.1 ++ G p.2) (fun p => OK p.1 ∧ OK' p.2) (fun p => μ p.1 + ν p.2) := fun fuel cs ys hl hy hf => by
  match ys, hy with
  | y :: ys, hyl =>
    have hy := hf 0 f rfl
    simp only [List.getElem?_cons_zero] at hy
    rw [ho, h.1] at hy
    obtain ⟨a, ⟨h1, h1'⟩, h2⟩ := h.2 fuel _ y (by rw [List.length_take, List.length_drop]; omega) hy
    obtain ⟨b, ⟨h3, h3'⟩, h4⟩ := h' fuel cs ys (by omega) (by simpa using hyl) (fun i g hg => by simpa using hf (i + 1) g (by simpa using hg))
    refine ⟨(a, b), ⟨⟨h1, h3⟩, ?_⟩, ?_⟩
    · simp only [List.map_cons, Rows.uptoBulkAll]; omega
    · have := h2.append h4
      rw [← List.drop_drop, List.take_append_drop] at this
      exact this
theorem OpensB.struct {t : TypeId} {fs : Array Field} {α : Type} {n : Nat} {F : α → List AV} {OK : α → Prop} {μ : α → Nat} (ht : P.underlying t = some (.struct fs)) (hc : P.cellsOf t = n) (h : OpensBFs enc P W 0 fs.toList n F OK μ) : OpensB enc P W t n F OK (fun a => μ a + 1) :=
  ⟨hc, fun fuel cs y hl hf => by
    obtain ⟨xs, m, _, rfl, hl', hlen, hi⟩ := DataW.trod_struct ht hf
    obtain ⟨a, ⟨h1, h2⟩, h3⟩ := h m cs xs (by omega) (by simpa using hlen) (fun i f hf => hi i f (by rw [← Array.getElem?_toList]; exact hf))
    refine ⟨a, ⟨h1, ?_⟩, by rwa [List.drop_zero] at h3⟩
    dsimp only
    rw [Rows.uptoBulk]
    omega⟩

/-! ### A call's arguments -/
theorem OpensB.agg {t : TypeId} {α : Type} {n : Nat} {F : α → List AV} {OK : α → Prop} {μ : α → Nat} (h : OpensB enc P W t n F OK μ) (ha : (match P.underlying t with | some (.struct _) => true | some (.array _ _) => true | _ => false) = true) {b0 : Nat} {v : Value} {d : DataW H} {ps : List MemPlace}
    (hval : Value.okWide P W .any b0 t v) (hd : DataW.Trod enc P W 0 (fun _ => true) true t v d ps) : ∃ a : α, Rep W [] noP (.agg (F a)) v ∧ OK a ∧ μ a ≤ Rows.uptoBulk d := by
  have hcs : ∃ cs, v = .agg cs ∧ cs.size = P.cellsOf t := by
    unfold Value.okWide at hval
    split at hval
    · obtain ⟨cs, h1, h2, _⟩ := hval; exact ⟨cs, h1, h2⟩
    · obtain ⟨cs, h1, h2, _⟩ := hval; exact ⟨cs, h1, h2⟩
    · rename_i hn1 hn2
      split at ha
      · rename_i h1; exact absurd h1 (hn1 _)
      · rename_i h1; exact absurd h1 (hn2 _ _)
      · cases ha
  obtain ⟨cs, rfl, hsz⟩ := hcs
  obtain ⟨fuel, hf⟩ := hd
  obtain ⟨a, ⟨h1, h1'⟩, h2⟩ := h.2 fuel _ _ (by simp only [Value.cells, Array.length_toList]; rw [hsz]; exact h.1) hf
  simp only [Value.cells] at h2
  refine ⟨a, .agg _ _ (by rw [h2.1, Array.length_toList]) fun i c x hc hx => ?_, h1, h1'⟩
  exact (h2.2 i c x hc (by rw [Array.getElem?_toList]; exact hx)).2
theorem OpensB.one {t : TypeId} {α : Type} {F : α → AV} {OK : α → Prop} {μ : α → Nat} (h : OpensB enc P W t 1 (fun a => [F a]) OK μ) {v : Value} {d : DataW H} {ps : List MemPlace} (hv : v.cells = #[v])
    (hd : DataW.Trod enc P W 0 (fun _ => true) true t v d ps) : ∃ a : α, Rep W [] noP (F a) v ∧ OK a ∧ μ a ≤ Rows.uptoBulk d := by
  obtain ⟨fuel, hf⟩ := hd
  rw [hv] at hf
  obtain ⟨a, ⟨h1, h1'⟩, h2⟩ := h.2 fuel [v] _ rfl hf
  exact ⟨a, (h2.2 0 _ _ rfl rfl).2, h1, h1'⟩
theorem OpensB.sl {t e : TypeId} {α : Type} {F : α → AV} {OK : α → Prop} {μ : α → Nat} (h : OpensB enc P W t 1 (fun a => [F a]) OK μ) (ht : P.underlying t = some (.slice e)) {b0 : Nat} {v : Value} {d : DataW H} {ps : List MemPlace}
    (hval : Value.okWide P W .any b0 t v) (hd : DataW.Trod enc P W 0 (fun _ => true) true t v d ps) : ∃ a : α, Rep W [] noP (F a) v ∧ OK a ∧ μ a ≤ Rows.uptoBulk d := by
  obtain ⟨a, len, cap, rfl⟩ := okWide_slice ht hval
  exact h.one rfl hd

end Go.Proofs.Ytnoekcdmaaakfaa.VL

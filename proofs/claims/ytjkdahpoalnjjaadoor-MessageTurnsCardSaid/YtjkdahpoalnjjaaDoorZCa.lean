/- The value logic, part 1: abstract values, boxes, what a world represents, and what each step keeps. -/
import Derived.Tactics
import Derived.Still
import Derived.Below
import Derived.Deep.Draws
import Derived.Laws.AppendOwn
import Derived.Laws.Cells
import Derived.Laws.Strings
import Derived.Laws.BytesString
import Derived.Laws.IdiomCopy
import Derived.Lib.ConvBytes
import Derived.Laws.BytesArg
import Derived.Laws.MakeOwn
namespace Go.Proofs.YtjkdahpoalnjjaaDoor.VL
open Go Go.RowKit

/-- Abstract values. 'v': a value that names no memory; 'agg': a struct's or an array's cells; 'lst': a slice that is only read (its elements, each a list of cells); 'sl': a slice over box b (as it is at generation g), from cell o on, n elements of sz cells; 'ptr': a pointer to a cell of a box; 'elt': a pointer to a cell of a row of cells that are only read; 'bself': the address that a strings.Builder keeps of itself, if any; 'bs': a slice over all of box b, whose block is one of elements of type e; 'bp': a pointer to its first element (to anything, where it has none); 'fn': a closure; 'emp': an empty slice without room; 'lit': a literal's row in a block from n on, that no box knows. -/
inductive AV where
  | v (x : Value)
  | agg (cs : List AV)
  | tup (vs : List AV)
  | lst (sz : Nat) (gs : List (List AV))
  | sl (b g o n sz : Nat) (full : Bool)
  | ptr (b g o : Nat)
  | elt (g : List AV) (j : Nat)
  | bself (b g : Nat) (e : TypeId)
  | bs (b g n : Nat) (e : TypeId)
  | bp (b g n : Nat) (e : TypeId)
  | fn (f : FuncId) (caps : List AV)
  | emp
  | lit (n sz : Nat) (gs : List (List AV))
  | dead

/-- A piece of memory that is owned: what its cells hold, how many of them are only read from now on, its generation, whether the spare cells behind it are owned too. -/
structure Box where
  cells : List AV
  ro : Nat
  gen : Nat
  grow : Bool

abbrev Pl := Nat → Option (Nat × Nat)

/-- The cells that may be written. -/
def Wr (H : List Box) (β : Pl) (k x : Nat) : Prop :=
  ∃ (i : Nat) (bx : Box) (s : Nat), H[i]? = some bx ∧ β i = some (k, s) ∧ s + bx.ro ≤ x ∧ (bx.grow = true ∨ x < s + bx.cells.length)

def SlAt (w : World) (loc : Option (Nat × Nat)) (o n sz : Nat) (full : Bool) (x : Value) : Prop :=
  ∃ (a : Option Addr) (cap : Nat), x = .slice a n cap ∧ n ≤ cap ∧ (full = true → cap = n) ∧
    (0 < cap → ∃ (k s : Nat) (c : Array Value) (e : TypeId) (fr : Nat × Nat), loc = some (k, s) ∧ a = some ⟨k, s + o, none⟩ ∧ w.heap[k]? = some (.cells c e fr) ∧ s + o + cap * sz ≤ c.size)

/-- A value of the model is what an abstract one says. -/
inductive Rep (w : World) (H : List Box) (β : Pl) : AV → Value → Prop
  | v (x : Value) : Rep w H β (.v x) x
  | dead (x : Value) : Rep w H β .dead x
  | emp (a : Option Addr) : Rep w H β .emp (.slice a 0 0)
  | lit (n sz : Nat) (gs : List (List AV)) (v : Value) (h : Rep w H β (.lst sz gs) v) (hk : ∃ k s m cap, v = .slice (some ⟨k, s, none⟩) m cap ∧ n ≤ k ∧ k < w.heap.size ∧ ∀ y, ¬ Wr H β k y) : Rep w H β (.lit n sz gs) v
  | agg (cs : List AV) (vs : Array Value) (hl : cs.length = vs.size) (h : ∀ (i : Nat) (c : AV) (x : Value), cs[i]? = some c → vs[i]? = some x → Rep w H β c x) : Rep w H β (.agg cs) (.agg vs)
  | tup (cs : List AV) (vs : Array Value) (hl : cs.length = vs.size) (h : ∀ (i : Nat) (c : AV) (x : Value), cs[i]? = some c → vs[i]? = some x → Rep w H β c x) : Rep w H β (.tup cs) (.tuple vs)
  | lst0 (sz : Nat) (a : Option Addr) (cap : Nat) : Rep w H β (.lst sz []) (.slice a 0 cap)
  | lst (sz : Nat) (gs : List (List AV)) (k s cap : Nat) (x : Nat → Nat → Value) (hn : gs.length ≤ cap)
      (hg : ∀ (i : Nat) (g : List AV), gs[i]? = some g → g.length = sz)
      (hc : ∀ (i j : Nat) (g : List AV) (c : AV), gs[i]? = some g → g[j]? = some c → w.cell? ⟨k, s + i * sz + j, none⟩ = some (x i j) ∧ (x i j).oneCell' = true ∧ ¬ Wr H β k (s + i * sz + j))
      (h : ∀ (i j : Nat) (g : List AV) (c : AV), gs[i]? = some g → g[j]? = some c → Rep w H β c (x i j)) :
      Rep w H β (.lst sz gs) (.slice (some ⟨k, s, none⟩) gs.length cap)
  | sl (b g o n sz : Nat) (full : Bool) (x : Value) (bx : Box) (hb : H[b]? = some bx) (hg : g ≤ bx.gen) (hx : ∃ a m cap, x = .slice a m cap) (h : bx.gen = g → SlAt w (β b) o n sz full x) : Rep w H β (.sl b g o n sz full) x
  | ptr (b g o : Nat) (x : Value) (bx : Box) (hb : H[b]? = some bx) (hg : g ≤ bx.gen) (hx : ∃ a, x = .pointer a) (h : bx.gen = g → ∃ k s, β b = some (k, s) ∧ x = .pointer (some ⟨k, s + o, none⟩)) : Rep w H β (.ptr b g o) x
  | bself (b g : Nat) (e : TypeId) (x : Value) (bx : Box) (hb : H[b]? = some bx) (hg : g ≤ bx.gen) (hx : ∃ a, x = .pointer a) (h : bx.gen = g → ∃ k c fr, β b = some (k, 0) ∧ (x = .pointer none ∨ x = .pointer (some ⟨k, 0, none⟩)) ∧ w.heap[k]? = some (.cells c e fr) ∧ c.size = 2) : Rep w H β (.bself b g e) x
  | bs (b g n : Nat) (e : TypeId) (x : Value) (bx : Box) (hb : H[b]? = some bx) (hg : g ≤ bx.gen) (hx : ∃ a m cap, x = .slice a m cap ∧ (a = none ∨ 0 < cap)) (h : bx.gen = g → SlAt w (β b) 0 n 1 false x)
      (ht : ∀ a m cap, x = .slice a m cap → 0 < cap → ∃ (k : Nat) (c : Array Value) (fr : Nat × Nat), a = some ⟨k, 0, none⟩ ∧ w.heap[k]? = some (.cells c e fr) ∧ fr.1 ≤ fr.2) : Rep w H β (.bs b g n e) x
  | bp (b g n : Nat) (e : TypeId) (x : Value) (hx : ∃ a, x = .pointer a) (h : 0 < n → ∃ bx, H[b]? = some bx ∧ g ≤ bx.gen ∧ (bx.gen = g → ∃ (k : Nat) (c : Array Value) (fr : Nat × Nat), β b = some (k, 0) ∧ x = .pointer (some ⟨k, 0, none⟩) ∧ w.heap[k]? = some (.cells c e fr) ∧ fr.1 ≤ fr.2 ∧ n ≤ c.size)) : Rep w H β (.bp b g n e) x
  | elt (g : List AV) (j : Nat) (k s : Nat) (x : Nat → Value)
      (hc : ∀ (j : Nat) (c : AV), g[j]? = some c → w.cell? ⟨k, s + j, none⟩ = some (x j) ∧ (x j).oneCell' = true ∧ ¬ Wr H β k (s + j))
      (h : ∀ (j : Nat) (c : AV), g[j]? = some c → Rep w H β c (x j)) :
      Rep w H β (.elt g j) (.pointer (some ⟨k, s + j, none⟩))
  | fn (f : FuncId) (cs : List AV) (vs : Array Value) (hl : cs.length = vs.size) (h : ∀ (i : Nat) (c : AV) (x : Value), cs[i]? = some c → vs[i]? = some x → Rep w H β c x) : Rep w H β (.fn f cs) (.func (.func f) #[] vs)

/-- What a step of the program leaves of a world, whatever it does: only what may be written is. -/
structure Stp (base : Nat) (w : World) (H : List Box) (β : Pl) (w' : World) (H' : List Box) (β' : Pl) : Prop where
  os : w'.os = w.os
  tape : w'.tape = w.tape
  output : w'.output = w.output
  size : w.heap.size ≤ w'.heap.size
  shape : ∀ (k : Nat) (c : Array Value) (e : TypeId) (fr : Nat × Nat), w.heap[k]? = some (.cells c e fr) → ∃ (c' : Array Value) (fr' : Nat × Nat), w'.heap[k]? = some (.cells c' e fr') ∧ c'.size = c.size ∧ (k < base → fr' = fr) ∧ (fr.1 ≤ fr.2 → fr'.1 ≤ fr'.2)
  other : ∀ (k : Nat) (o : Obj), w.heap[k]? = some o → (∀ c e fr, o ≠ .cells c e fr) → w'.heap[k]? = some o
  keep : ∀ (k x : Nat), k < w.heap.size → ¬ Wr H β k x → w'.cell? ⟨k, x, none⟩ = w.cell? ⟨k, x, none⟩
  wr : ∀ (k x : Nat), k < w.heap.size → Wr H' β' k x → Wr H β k x
  ids : ∀ (b : Nat) (bx : Box), H[b]? = some bx → ∃ bx' : Box, H'[b]? = some bx' ∧ bx.gen ≤ bx'.gen ∧ (bx'.gen = bx.gen → β' b = β b)

theorem Stp.refl {base : Nat} (w : World) (H : List Box) (β : Pl) : Stp base w H β w H β :=
  ⟨rfl, rfl, rfl, Nat.le_refl _, fun _ c _ fr h => ⟨c, fr, h, rfl, fun _ => rfl, fun h => h⟩, fun _ _ h _ => h, fun _ _ _ _ => rfl, fun _ _ _ h => h, fun _ bx h => ⟨bx, h, Nat.le_refl _, fun _ => rfl⟩⟩

theorem Stp.trans {base : Nat} {w w1 w2 : World} {H H1 H2 : List Box} {β β1 β2 : Pl} (h : Stp base w H β w1 H1 β1) (h' : Stp base w1 H1 β1 w2 H2 β2) : Stp base w H β w2 H2 β2 where
  os := h'.os.trans h.os
  tape := h'.tape.trans h.tape
  output := h'.output.trans h.output
  size := Nat.le_trans h.size h'.size
  shape k c e fr hk := by
    obtain ⟨c1, f1, h1, e1, g1, q1⟩ := h.shape k c e fr hk
    obtain ⟨c2, f2, h2, e2, g2, q2⟩ := h'.shape k c1 e f1 h1
    exact ⟨c2, f2, h2, e2.trans e1, fun hb => (g2 hb).trans (g1 hb), fun hq => q2 (q1 hq)⟩
  other k o hk ho := h'.other k o (h.other k o hk ho) ho
  keep k x hk hw := by
    rw [h'.keep k x (Nat.lt_of_lt_of_le hk h.size) (fun hh => hw (h.wr k x hk hh)), h.keep k x hk hw]
  wr k x hk hw := h.wr k x hk (h'.wr k x (Nat.lt_of_lt_of_le hk h.size) hw)
  ids b bx hb := by
    obtain ⟨b1, h1, g1, e1⟩ := h.ids b bx hb
    obtain ⟨b2, h2, g2, e2⟩ := h'.ids b b1 h1
    refine ⟨b2, h2, Nat.le_trans g1 g2, fun e => ?_⟩
    rw [e2 (by omega), e1 (by omega)]

theorem cell_lt {w : World} {a : Addr} {v : Value} (h : w.cell? a = some v) : a.block < w.heap.size := World.block_lt_of_cell? w a h

theorem SlAt.stp {base : Nat} {w w' : World} {H H' : List Box} {β β' : Pl} (hs : Stp base w H β w' H' β') {loc : Option (Nat × Nat)} {o n sz : Nat} {full : Bool} {x : Value} (h : SlAt w loc o n sz full x) : SlAt w' loc o n sz full x := by
  obtain ⟨a, cap, hx, hn, hf, hc⟩ := h
  refine ⟨a, cap, hx, hn, hf, fun h0 => ?_⟩
  obtain ⟨k, s, c, e, fr, h1, h2, h3, h4⟩ := hc h0
  obtain ⟨c', fr', h5, h6, _⟩ := hs.shape k c e fr h3
  exact ⟨k, s, c', e, fr', h1, h2, h5, by omega⟩

/-- A step keeps what is represented. -/
theorem Rep.stp {base : Nat} {w w' : World} {H H' : List Box} {β β' : Pl} (hs : Stp base w H β w' H' β') {c : AV} {x : Value} (h : Rep w H β c x) : Rep w' H' β' c x := by
  induction h with
  | v x => exact .v x
  | dead x => exact .dead x
  | emp a => exact .emp a
  | lit n sz gs v _ hk ih =>
    obtain ⟨k, s, m, cap, e, h1, h2, h3⟩ := hk
    exact .lit n sz gs v ih ⟨k, s, m, cap, e, h1, Nat.lt_of_lt_of_le h2 hs.size, fun y hw => h3 y (hs.wr k y h2 hw)⟩
  | agg cs vs hl _ ih => exact .agg cs vs hl ih
  | tup cs vs hl _ ih => exact .tup cs vs hl ih
  | lst0 sz a cap => exact .lst0 sz a cap
  | lst sz gs k s cap x hn hg hc _ ih =>
    refine .lst sz gs k s cap x hn hg (fun i j g c hi hj => ?_) ih
    obtain ⟨h1, h3, h2⟩ := hc i j g c hi hj
    have hlt := cell_lt h1
    exact ⟨by rw [hs.keep k _ hlt h2]; exact h1, h3, fun hw => h2 (hs.wr k _ hlt hw)⟩
  | sl b g o n sz full x bx hb hg hx h =>
    obtain ⟨bx', h1, h2, h3⟩ := hs.ids b bx hb
    exact .sl b g o n sz full x bx' h1 (Nat.le_trans hg h2) hx fun e => by
      rw [h3 (by omega)]
      exact (h (by omega)).stp hs
  | ptr b g o x bx hb hg hx h =>
    obtain ⟨bx', h1, h2, h3⟩ := hs.ids b bx hb
    exact .ptr b g o x bx' h1 (Nat.le_trans hg h2) hx fun e => by
      rw [h3 (by omega)]
      exact h (by omega)
  | bself b g e x bx hb hg hx h =>
    obtain ⟨bx', h1, h2, h3⟩ := hs.ids b bx hb
    exact .bself b g e x bx' h1 (Nat.le_trans hg h2) hx fun he => by
      rw [h3 (by omega)]
      obtain ⟨k, c, fr, g1, g2, g3, g4⟩ := h (by omega)
      obtain ⟨c', fr', g5, g6, _⟩ := hs.shape k c e fr g3
      exact ⟨k, c', fr', g1, g2, g5, g6.trans g4⟩
  | bs b g n e x bx hb hg hx h ht =>
    obtain ⟨bx', h1, h2, h3⟩ := hs.ids b bx hb
    exact .bs b g n e x bx' h1 (Nat.le_trans hg h2) hx (fun e => by
      rw [h3 (by omega)]
      exact (h (by omega)).stp hs) fun a m cap ha h0 => by
      obtain ⟨k, c, fr, g1, g2, g3⟩ := ht a m cap ha h0
      obtain ⟨c', fr', g5, g6, _, g7⟩ := hs.shape k c e fr g2
      exact ⟨k, c', fr', g1, g5, g7 g3⟩
  | bp b g n e x hx h =>
    refine .bp b g n e x hx fun h0 => ?_
    obtain ⟨bx, hb, hg, hh⟩ := h h0
    obtain ⟨bx', h1, h2, h3⟩ := hs.ids b bx hb
    refine ⟨bx', h1, Nat.le_trans hg h2, fun he => ?_⟩
    rw [h3 (by omega)]
    obtain ⟨k, c, fr, g1, g2, g3, g4, g5⟩ := hh (by omega)
    obtain ⟨c', fr', g6, g7, _, g8⟩ := hs.shape k c e fr g3
    exact ⟨k, c', fr', g1, g2, g6, g8 g4, by omega⟩
  | elt g j k s x hc _ ih =>
    refine .elt g j k s x (fun j c hj => ?_) ih
    obtain ⟨h1, h3, h2⟩ := hc j c hj
    have hlt := cell_lt h1
    exact ⟨by rw [hs.keep k _ hlt h2]; exact h1, h3, fun hw => h2 (hs.wr k _ hlt hw)⟩
  | fn f cs vs hl _ ih => exact .fn f cs vs hl ih

/-- The cells of package variables that nobody writes, as the program's text lays them. -/
def gvals : Nat → List Value := fun g => if g = 0 then [.bool false, .bool false, .bool true, .bool false, .bool true, .bool true, .bool false, .bool true, .bool false, .bool false, .bool false, .bool false, .bool false, .bool false, .bool false, .bool false] else []
/-- What lies below the first block that may be written: package variables, as they were laid. -/
structure Bse (base : Nat) (w : World) : Prop where
  le : base ≤ w.heap.size
  glob : ∀ (g j : Nat) (v : Value), (gvals g)[j]? = some v → g < base ∧ w.cell? ⟨g, j, none⟩ = some v ∧ v.oneCell' = true

/-- What holds of a world and its boxes at every moment. -/
structure Inv (base : Nat) (w : World) (H : List Box) (β : Pl) : Prop where
  bse : Bse base w
  ro : ∀ (i : Nat) (bx : Box), H[i]? = some bx → bx.ro ≤ bx.cells.length
  virt : ∀ (i : Nat) (bx : Box), H[i]? = some bx → β i = none → bx.cells = []
  real : ∀ (i : Nat) (bx : Box) (k s : Nat), H[i]? = some bx → β i = some (k, s) → base ≤ k ∧ k < w.heap.size
  cells : ∀ (i : Nat) (bx : Box) (k s : Nat), H[i]? = some bx → β i = some (k, s) → ∀ (j : Nat) (c : AV), bx.cells[j]? = some c → ∃ x, w.cell? ⟨k, s + j, none⟩ = some x ∧ x.oneCell' = true ∧ Rep w H β c x
  free : ∀ (k x : Nat), Wr H β k x → w.frozen? ⟨k, x, none⟩ = false
  apart : ∀ (i i' : Nat) (bx bx' : Box) (k s s' x : Nat), i ≠ i' → H[i]? = some bx → H[i']? = some bx' → β i = some (k, s) → β i' = some (k, s') →
    s + bx.ro ≤ x → (bx.grow = true ∨ x < s + bx.cells.length) → s' ≤ x → ¬ (bx'.grow = true ∨ x < s' + bx'.cells.length)

theorem Inv.low {base : Nat} {w : World} {H : List Box} {β : Pl} (hI : Inv base w H β) {k x : Nat} (h : Wr H β k x) : base ≤ k := by
  obtain ⟨i, bx, s, h1, h2, _⟩ := h
  exact (hI.real i bx k s h1 h2).1
theorem Inv.bseS {base : Nat} {w w' : World} {H H' : List Box} {β β' : Pl} (hI : Inv base w H β) (h : Stp base w H β w' H' β') : Bse base w' :=
  ⟨Nat.le_trans hI.bse.le h.size, fun g j v hg => by
    obtain ⟨h1, h2, h3⟩ := hI.bse.glob g j v hg
    have := hI.bse.le
    exact ⟨h1, (h.keep g j (by omega) fun hw => by have := hI.low hw; omega).trans h2, h3⟩⟩

end Go.Proofs.YtjkdahpoalnjjaaDoor.VL

namespace Go.Proofs.YtjkdahpoalnjjaaDoor.VL
open Go Go.RowKit

/-- What every change of the world leaves. -/
structure Wor (w w' : World) : Prop where
  os : w'.os = w.os
  tape : w'.tape = w.tape
  output : w'.output = w.output
  size : w.heap.size ≤ w'.heap.size
  shape : ∀ (k : Nat) (c : Array Value) (e : TypeId) (fr : Nat × Nat), w.heap[k]? = some (.cells c e fr) → ∃ c' : Array Value, w'.heap[k]? = some (.cells c' e fr) ∧ c'.size = c.size
  other : ∀ (k : Nat) (o : Obj), w.heap[k]? = some o → (∀ c e fr, o ≠ .cells c e fr) → w'.heap[k]? = some o

theorem Wor.shape' {base : Nat} {w w' : World} (h : Wor w w') (k : Nat) (c : Array Value) (e : TypeId) (fr : Nat × Nat) (hk : w.heap[k]? = some (.cells c e fr)) : ∃ (c' : Array Value) (fr' : Nat × Nat), w'.heap[k]? = some (.cells c' e fr') ∧ c'.size = c.size ∧ (k < base → fr' = fr) ∧ (fr.1 ≤ fr.2 → fr'.1 ≤ fr'.2) :=
  let ⟨c', h1, h2⟩ := h.shape k c e fr hk
  ⟨c', fr, h1, h2, fun _ => rfl, fun h => h⟩

theorem Wor.refl (w : World) : Wor w w := ⟨rfl, rfl, rfl, Nat.le_refl _, fun _ c _ _ h => ⟨c, h, rfl⟩, fun _ _ h _ => h⟩
theorem Wor.trans {w w1 w2 : World} (h : Wor w w1) (h' : Wor w1 w2) : Wor w w2 where
  os := h'.os.trans h.os
  tape := h'.tape.trans h.tape
  output := h'.output.trans h.output
  size := Nat.le_trans h.size h'.size
  shape k c e fr hk := by
    obtain ⟨c1, h1, e1⟩ := h.shape k c e fr hk
    obtain ⟨c2, h2, e2⟩ := h'.shape k c1 e fr h1
    exact ⟨c2, h2, e2.trans e1⟩
  other k o hk ho := h'.other k o (h.other k o hk ho) ho
theorem Wor.alloc (w : World) (o : Obj) : Wor w (w.alloc o) where
  os := rfl
  tape := rfl
  output := rfl
  size := by simp
  shape k c e fr h := ⟨c, by rw [Below.heap_alloc w o k (Array.getElem?_eq_some_iff.1 h).1]; exact h, rfl⟩
  other k o' h _ := by rw [Below.heap_alloc w o k (Array.getElem?_eq_some_iff.1 h).1]; exact h
theorem Wor.drawn (w : World) (n : Nat) : Wor w { w with drawn := n } := ⟨rfl, rfl, rfl, Nat.le_refl _, fun _ c _ _ h => ⟨c, h, rfl⟩, fun _ _ h _ => h⟩
theorem Wor.setCell (w : World) (a : Addr) (v : Value) : Wor w (w.setCell a v) where
  os := rfl
  tape := rfl
  output := rfl
  size := by simp [World.setCell]
  shape k c e fr h := by
    by_cases hk : k = a.block
    · subst hk
      refine ⟨if a.spot.isSome then c else c.setIfInBounds a.off v, ?_, ?_⟩
      · simp [World.setCell, Array.getElem?_modify, h]
      · split <;> simp
    · exact ⟨c, by rw [Below.heap_setCell w a v k hk]; exact h, rfl⟩
  other k o h ho := by
    by_cases hk : k = a.block
    · subst hk
      simp only [World.setCell, Array.getElem?_modify, if_pos, h, Option.map_some]
    · rw [Below.heap_setCell w a v k hk]; exact h
theorem Wor.frozen {w w' : World} (h : Wor w w') {k x : Nat} (hk : k < w.heap.size) : w'.frozen? ⟨k, x, none⟩ = w.frozen? ⟨k, x, none⟩ := by
  have hs : w.heap[k]? = some w.heap[k] := Array.getElem?_eq_getElem hk
  unfold World.frozen?
  dsimp only
  rw [hs]
  cases ho : w.heap[k] with
  | cells c e fr =>
    obtain ⟨c', h1, _⟩ := h.shape k c e fr (by rw [hs, ho])
    rw [h1]
  | _ =>
    rw [h.other k _ (hs.trans (by rw [ho])) (by intro c e fr; simp)]

theorem alloc_cell (w : World) (o : Obj) (k x : Nat) (hk : k < w.heap.size) : (w.alloc o).cell? ⟨k, x, none⟩ = w.cell? ⟨k, x, none⟩ :=
  World.cell?_of_block (w := w) (Below.heap_alloc w o k hk)
theorem alloc_new (w : World) (c : Array Value) (e : TypeId) (fr : Nat × Nat) (x : Nat) : (w.alloc (.cells c e fr)).cell? ⟨w.heap.size, x, none⟩ = c[x]? := by
  show (match (w.heap.push (Obj.cells c e fr))[w.heap.size]? with | some (.cells c _ _) => if (none : Option Nat).isSome then none else c[x]? | _ => none) = c[x]?
  rw [Array.getElem?_push_size]; rfl
theorem alloc_new_frozen (w : World) (c : Array Value) (e : TypeId) (x : Nat) : (w.alloc (.cells c e)).frozen? ⟨w.heap.size, x, none⟩ = false := by
  show (match (w.heap.push (Obj.cells c e))[w.heap.size]? with | some (.cells _ _ (lo, hi)) => decide (lo ≤ x) && decide (x < hi) | _ => false) = false
  rw [Array.getElem?_push_size]; simp

def upd (β : Pl) (b : Nat) (l : Nat × Nat) : Pl := fun i => if i = b then some l else β i
theorem upd_same (β : Pl) (b : Nat) (l : Nat × Nat) : upd β b l b = some l := by simp [upd]
theorem upd_ne (β : Pl) {b i : Nat} (l : Nat × Nat) (h : i ≠ b) : upd β b l i = β i := by simp [upd, h]

/-- A box is put in another one's place. -/
theorem repl {base : Nat} {w w' : World} {H : List Box} {β : Pl} {b : Nat} {bx bx' : Box} {k' s' : Nat} (hI : Inv base w H β) (hb : H[b]? = some bx) (hw : Wor w w')
    (R : Nat → Nat → Prop) (hR : ∀ k x, R k x → ∃ s, β b = some (k, s) ∧ s + bx.ro ≤ x ∧ (bx.grow = true ∨ x < s + bx.cells.length))
    (keep : ∀ k x, k < w.heap.size → ¬ R k x → w'.cell? ⟨k, x, none⟩ = w.cell? ⟨k, x, none⟩)
    (hk : base ≤ k' ∧ k' < w'.heap.size) (hro : bx'.ro ≤ bx'.cells.length)
    (hreg : w.heap.size ≤ k' ∨ ∃ s, β b = some (k', s) ∧ s + bx.ro ≤ s' + bx'.ro ∧ s ≤ s' ∧ (bx'.grow = true → bx.grow = true) ∧ (bx.grow = true ∨ s' + bx'.cells.length ≤ s + bx.cells.length))
    (hgen : bx.gen ≤ bx'.gen) (hsame : bx'.gen = bx.gen → β b = some (k', s'))
    (hfree : w.heap.size ≤ k' → ∀ x, w'.frozen? ⟨k', x, none⟩ = false)
    (hcells : ∀ j c, bx'.cells[j]? = some c → ∃ x, w'.cell? ⟨k', s' + j, none⟩ = some x ∧ x.oneCell' = true ∧ Rep w H β c x) :
    Inv base w' (H.set b bx') (upd β b (k', s')) ∧ Stp base w H β w' (H.set b bx') (upd β b (k', s')) := by
  have hbl : b < H.length := (List.getElem?_eq_some_iff.1 hb).1
  have hget : ∀ i bx1, (H.set b bx')[i]? = some bx1 → (i = b ∧ bx1 = bx') ∨ (i ≠ b ∧ H[i]? = some bx1) := by
    intro i bx1 h
    by_cases hi : i = b
    · subst hi
      rw [List.getElem?_set_self hbl] at h
      exact .inl ⟨rfl, (Option.some.inj h).symm⟩
    · rw [List.getElem?_set_ne (Ne.symm hi)] at h
      exact .inr ⟨hi, h⟩
  have hst : Stp base w H β w' (H.set b bx') (upd β b (k', s')) := by
    refine ⟨hw.os, hw.tape, hw.output, hw.size, hw.shape', hw.other, fun k x hk hn => keep k x hk fun hr => hn ?_, fun k x hk hwr => ?_, fun i bi hi => ?_⟩
    · obtain ⟨s, h1, h2, h3⟩ := hR k x hr
      exact ⟨b, bx, s, hb, h1, h2, h3⟩
    · obtain ⟨i, bi, s, h1, h2, h3, h4⟩ := hwr
      rcases hget i bi h1 with ⟨rfl, rfl⟩ | ⟨hi, h1⟩
      · rw [upd_same] at h2
        injection h2 with h2
        injection h2 with e1 e2
        subst e1; subst e2
        rcases hreg with h | ⟨s, g1, g2, g3, g4, g5⟩
        · omega
        · refine ⟨i, bx, s, hb, g1, by omega, ?_⟩
          rcases g5 with g5 | g5
          · exact .inl g5
          · rcases h4 with h4 | h4
            · exact .inl (g4 h4)
            · exact .inr (by omega)
      · rw [upd_ne β _ hi] at h2
        exact ⟨i, bi, s, h1, h2, h3, h4⟩
    · by_cases hib : i = b
      · subst hib
        rw [hb] at hi
        obtain rfl := Option.some.inj hi
        exact ⟨bx', List.getElem?_set_self hbl, hgen, fun e => by rw [upd_same, hsame e]⟩
      · exact ⟨bi, by rw [List.getElem?_set_ne (Ne.symm hib)]; exact hi, Nat.le_refl _, fun _ => upd_ne β _ hib⟩
  refine ⟨⟨hI.bseS hst, fun i bi hi => ?_, fun i bi hi hv => ?_, fun i bi k s hi hl => ?_, fun i bi k s hi hl j c hj => ?_, fun k x hwr => ?_, fun i i' bi bi' k s s' x hne hi hi' hl hl' h1 h2 h3 => ?_⟩, hst⟩
  · rcases hget i bi hi with ⟨rfl, rfl⟩ | ⟨_, h⟩
    · exact hro
    · exact hI.ro i bi h
  · rcases hget i bi hi with ⟨rfl, rfl⟩ | ⟨hi', h⟩
    · rw [upd_same] at hv; cases hv
    · exact hI.virt i bi h (by rwa [upd_ne β _ hi'] at hv)
  · rcases hget i bi hi with ⟨rfl, rfl⟩ | ⟨hi', h⟩
    · rw [upd_same] at hl
      injection hl with hl
      injection hl with e1 e2
      exact e1 ▸ hk
    · rw [upd_ne β _ hi'] at hl
      obtain ⟨h1, h2⟩ := hI.real i bi k s h hl
      exact ⟨h1, Nat.lt_of_lt_of_le h2 hw.size⟩
  · rcases hget i bi hi with ⟨rfl, rfl⟩ | ⟨hi', h⟩
    · rw [upd_same] at hl
      injection hl with hl
      injection hl with e1 e2
      subst e1; subst e2
      obtain ⟨x, g1, g0, g2⟩ := hcells j c hj
      exact ⟨x, g1, g0, g2.stp hst⟩
    · rw [upd_ne β _ hi'] at hl
      obtain ⟨x, g1, g0, g2⟩ := hI.cells i bi k s h hl j c hj
      refine ⟨x, ?_, g0, g2.stp hst⟩
      rw [keep k _ (hI.real i bi k s h hl).2 fun hr => ?_]
      · exact g1
      · obtain ⟨s1, r1, r2, r3⟩ := hR k _ hr
        have hjl := (List.getElem?_eq_some_iff.1 hj).1
        exact hI.apart b i bx bi k s1 s _ (Ne.symm hi') hb h r1 hl r2 r3 (by omega) (.inr (by omega))
  · obtain ⟨i, bi, s, h1, h2, h3, h4⟩ := hwr
    rcases hget i bi h1 with ⟨rfl, rfl⟩ | ⟨hi', h⟩
    · rw [upd_same] at h2
      injection h2 with h2
      injection h2 with e1 e2
      subst e1; subst e2
      rcases Nat.lt_or_ge k' w.heap.size with hlt | hge
      · rw [hw.frozen hlt]
        rcases hreg with g | ⟨s, g1, g2, g3, g4, g5⟩
        · omega
        · refine hI.free _ _ ⟨i, bx, s, hb, g1, by omega, ?_⟩
          rcases g5 with g5 | g5
          · exact .inl g5
          · rcases h4 with h4 | h4
            · exact .inl (g4 h4)
            · exact .inr (by omega)
      · exact hfree hge x
    · rw [upd_ne β _ hi'] at h2
      rw [hw.frozen (hI.real i bi k s h h2).2]
      exact hI.free k x ⟨i, bi, s, h, h2, h3, h4⟩
  · rcases hget i bi hi with ⟨rfl, rfl⟩ | ⟨hib, h⟩
    · rcases hget i' bi' hi' with ⟨rfl, rfl⟩ | ⟨hib', h'⟩
      · exact absurd rfl hne
      · rw [upd_same] at hl
        rw [upd_ne β _ hib'] at hl'
        injection hl with hl
        injection hl with e1 e2
        subst e1; subst e2
        have hlt := (hI.real i' bi' _ s' h' hl').2
        rcases hreg with g | ⟨s1, g1, g2, g3, g4, g5⟩
        · omega
        · refine hI.apart i i' bx bi' _ s1 s' x hne hb h' g1 hl' (by omega) ?_ h3
          rcases g5 with g5 | g5
          · exact .inl g5
          · rcases h2 with h2 | h2
            · exact .inl (g4 h2)
            · exact .inr (by omega)
    · rw [upd_ne β _ hib] at hl
      rcases hget i' bi' hi' with ⟨rfl, rfl⟩ | ⟨hib', h'⟩
      · rw [upd_same] at hl'
        injection hl' with hl'
        injection hl' with e1 e2
        subst e1; subst e2
        have hlt := (hI.real i bi _ s h hl).2
        rcases hreg with g | ⟨s1, g1, g2, g3, g4, g5⟩
        · omega
        · intro hh
          refine hI.apart i i' bi bx _ s s1 x hne h hb hl g1 h1 h2 (by omega) ?_
          rcases g5 with g5 | g5
          · exact .inl g5
          · rcases hh with hh | hh
            · exact .inl (g4 hh)
            · exact .inr (by omega)
      · rw [upd_ne β _ hib'] at hl'
        exact hI.apart i i' bi bi' k s s' x hne h h' hl hl' h1 h2 h3

/-- A step that writes nothing that is owned. -/
theorem still {base : Nat} {w w' : World} {H : List Box} {β : Pl} (hI : Inv base w H β) (hw : Wor w w')
    (keep : ∀ k x, k < w.heap.size → w'.cell? ⟨k, x, none⟩ = w.cell? ⟨k, x, none⟩) : Inv base w' H β ∧ Stp base w H β w' H β := by
  have hst : Stp base w H β w' H β := ⟨hw.os, hw.tape, hw.output, hw.size, hw.shape', hw.other, fun k x hk _ => keep k x hk, fun _ _ _ h => h, fun _ bx h => ⟨bx, h, Nat.le_refl _, fun _ => rfl⟩⟩
  refine ⟨⟨hI.bseS hst, hI.ro, hI.virt, fun i bx k s hi hl => ?_, fun i bx k s hi hl j c hj => ?_, fun k x hwr => ?_, hI.apart⟩, hst⟩
  · obtain ⟨h1, h2⟩ := hI.real i bx k s hi hl
    exact ⟨h1, Nat.lt_of_lt_of_le h2 hw.size⟩
  · obtain ⟨x, g1, g0, g2⟩ := hI.cells i bx k s hi hl j c hj
    exact ⟨x, by rw [keep k _ (hI.real i bx k s hi hl).2]; exact g1, g0, g2.stp hst⟩
  · have hwr' := hwr
    obtain ⟨i, bx, s, h1, h2, h3, h4⟩ := hwr
    rw [hw.frozen (hI.real i bx k s h1 h2).2]
    exact hI.free k x hwr'

/-- A new box, in a new block. -/
theorem newb {base : Nat} {w : World} {H : List Box} {β : Pl} (hI : Inv base w H β) (cs : Array Value) (e : TypeId) (bx : Box) (hro : bx.ro ≤ bx.cells.length)
    (hcells : ∀ (j : Nat) (c : AV), bx.cells[j]? = some c → ∃ x, cs[j]? = some x ∧ x.oneCell' = true ∧ Rep w H β c x) :
    Inv base (w.alloc (.cells cs e)) (H ++ [bx]) (upd β H.length (w.heap.size, 0)) ∧ Stp base w H β (w.alloc (.cells cs e)) (H ++ [bx]) (upd β H.length (w.heap.size, 0)) := by
  have hw := Wor.alloc w (.cells cs e)
  have hget : ∀ i bx1, (H ++ [bx])[i]? = some bx1 → (i = H.length ∧ bx1 = bx) ∨ (i ≠ H.length ∧ H[i]? = some bx1) := by
    intro i bx1 h
    rcases Nat.lt_trichotomy i H.length with hi | hi | hi
    · rw [List.getElem?_append_left hi] at h
      exact .inr ⟨by omega, h⟩
    · subst hi
      rw [List.getElem?_append_right (Nat.le_refl _)] at h
      simp at h
      exact .inl ⟨rfl, h.symm⟩
    · rw [List.getElem?_append_right (by omega)] at h
      have : i - H.length ≠ 0 := by omega
      simp [this] at h
  have hlen : ∀ i bx1, H[i]? = some bx1 → i ≠ H.length := fun i bx1 h => by have := (List.getElem?_eq_some_iff.1 h).1; omega
  have hst : Stp base w H β (w.alloc (.cells cs e)) (H ++ [bx]) (upd β H.length (w.heap.size, 0)) := by
    refine ⟨hw.os, hw.tape, hw.output, hw.size, hw.shape', hw.other, fun k x hk _ => alloc_cell w _ k x hk, fun k x hk hwr => ?_, fun i bi hi => ?_⟩
    · obtain ⟨i, bi, s, h1, h2, h3, h4⟩ := hwr
      rcases hget i bi h1 with ⟨rfl, rfl⟩ | ⟨hi, h1⟩
      · rw [upd_same] at h2
        injection h2 with h2
        injection h2 with e1 e2
        omega
      · rw [upd_ne β _ hi] at h2
        exact ⟨i, bi, s, h1, h2, h3, h4⟩
    · exact ⟨bi, by rw [List.getElem?_append_left (List.getElem?_eq_some_iff.1 hi).1]; exact hi, Nat.le_refl _, fun _ => upd_ne β _ (hlen i bi hi)⟩
  refine ⟨⟨hI.bseS hst, fun i bi hi => ?_, fun i bi hi hv => ?_, fun i bi k s hi hl => ?_, fun i bi k s hi hl j c hj => ?_, fun k x hwr => ?_, fun i i' bi bi' k s s' x hne hi hi' hl hl' h1 h2 h3 => ?_⟩, hst⟩
  · rcases hget i bi hi with ⟨rfl, rfl⟩ | ⟨_, h⟩
    · exact hro
    · exact hI.ro i bi h
  · rcases hget i bi hi with ⟨rfl, rfl⟩ | ⟨hi', h⟩
    · rw [upd_same] at hv; cases hv
    · exact hI.virt i bi h (by rwa [upd_ne β _ hi'] at hv)
  · rcases hget i bi hi with ⟨rfl, rfl⟩ | ⟨hi', h⟩
    · rw [upd_same] at hl
      injection hl with hl
      injection hl with e1 e2
      subst e1
      exact ⟨hI.bse.le, by simp⟩
    · rw [upd_ne β _ hi'] at hl
      obtain ⟨h1, h2⟩ := hI.real i bi k s h hl
      exact ⟨h1, Nat.lt_of_lt_of_le h2 hw.size⟩
  · rcases hget i bi hi with ⟨rfl, rfl⟩ | ⟨hi', h⟩
    · rw [upd_same] at hl
      injection hl with hl
      injection hl with e1 e2
      subst e1; subst e2
      obtain ⟨x, g1, g0, g2⟩ := hcells j c hj
      exact ⟨x, by rw [alloc_new, Nat.zero_add]; exact g1, g0, g2.stp hst⟩
    · rw [upd_ne β _ hi'] at hl
      obtain ⟨x, g1, g0, g2⟩ := hI.cells i bi k s h hl j c hj
      exact ⟨x, by rw [alloc_cell w _ k _ (hI.real i bi k s h hl).2]; exact g1, g0, g2.stp hst⟩
  · obtain ⟨i, bi, s, h1, h2, h3, h4⟩ := hwr
    rcases hget i bi h1 with ⟨rfl, rfl⟩ | ⟨hi', h⟩
    · rw [upd_same] at h2
      injection h2 with h2
      injection h2 with e1 e2
      subst e1
      exact alloc_new_frozen w cs e x
    · rw [upd_ne β _ hi'] at h2
      rw [hw.frozen (hI.real i bi k s h h2).2]
      exact hI.free k x ⟨i, bi, s, h, h2, h3, h4⟩
  · rcases hget i bi hi with ⟨rfl, rfl⟩ | ⟨hib, h⟩
    · rcases hget i' bi' hi' with ⟨rfl, rfl⟩ | ⟨hib', h'⟩
      · exact absurd rfl hne
      · rw [upd_same] at hl
        rw [upd_ne β _ hib'] at hl'
        injection hl with hl
        injection hl with e1 e2
        have hlt := (hI.real i' bi' _ s' h' hl').2
        omega
    · rw [upd_ne β _ hib] at hl
      rcases hget i' bi' hi' with ⟨rfl, rfl⟩ | ⟨hib', h'⟩
      · rw [upd_same] at hl'
        injection hl' with hl'
        injection hl' with e1 e2
        have hlt := (hI.real i bi _ s h hl).2
        omega
      · rw [upd_ne β _ hib'] at hl'
        exact hI.apart i i' bi bi' k s s' x hne h h' hl hl' h1 h2 h3

def updn (β : Pl) (b : Nat) : Pl := fun i => if i = b then none else β i
theorem updn_same (β : Pl) (b : Nat) : updn β b b = none := by simp [updn]
theorem updn_ne (β : Pl) {b i : Nat} (h : i ≠ b) : updn β b i = β i := by simp [updn, h]
/-- A new box without memory of its own yet. -/
theorem newv {base : Nat} {w : World} {H : List Box} {β : Pl} (hI : Inv base w H β) (ro g : Nat) (hro : ro = 0) :
    Inv base w (H ++ [⟨[], ro, g, true⟩]) (updn β H.length) ∧ Stp base w H β w (H ++ [⟨[], ro, g, true⟩]) (updn β H.length) := by
  have hget : ∀ i bx1, (H ++ [(⟨[], ro, g, true⟩ : Box)])[i]? = some bx1 → (i = H.length ∧ bx1 = ⟨[], ro, g, true⟩) ∨ (i ≠ H.length ∧ H[i]? = some bx1) := by
    intro i bx1 h
    rcases Nat.lt_trichotomy i H.length with hi | hi | hi
    · rw [List.getElem?_append_left hi] at h
      exact .inr ⟨by omega, h⟩
    · subst hi
      rw [List.getElem?_append_right (Nat.le_refl _)] at h
      simp at h
      exact .inl ⟨rfl, h.symm⟩
    · rw [List.getElem?_append_right (by omega)] at h
      have : i - H.length ≠ 0 := by omega
      simp [this] at h
  have hlen : ∀ i bx1, H[i]? = some bx1 → i ≠ H.length := fun i bx1 h => by have := (List.getElem?_eq_some_iff.1 h).1; omega
  have hwr : ∀ k x, Wr (H ++ [(⟨[], ro, g, true⟩ : Box)]) (updn β H.length) k x → Wr H β k x := by
    rintro k x ⟨i, bi, s, h1, h2, h3, h4⟩
    rcases hget i bi h1 with ⟨rfl, rfl⟩ | ⟨hi, h1⟩
    · rw [updn_same] at h2; cases h2
    · rw [updn_ne β hi] at h2
      exact ⟨i, bi, s, h1, h2, h3, h4⟩
  have hst : Stp base w H β w (H ++ [(⟨[], ro, g, true⟩ : Box)]) (updn β H.length) :=
    ⟨rfl, rfl, rfl, Nat.le_refl _, fun _ c _ fr h => ⟨c, fr, h, rfl, fun _ => rfl, fun h => h⟩, fun _ _ h _ => h, fun _ _ _ _ => rfl, fun k x _ h => hwr k x h, fun i bi hi =>
      ⟨bi, by rw [List.getElem?_append_left (List.getElem?_eq_some_iff.1 hi).1]; exact hi, Nat.le_refl _, fun _ => updn_ne β (hlen i bi hi)⟩⟩
  refine ⟨⟨hI.bse, fun i bi hi => ?_, fun i bi hi hv => ?_, fun i bi k s hi hl => ?_, fun i bi k s hi hl j c hj => ?_, fun k x h => hI.free k x (hwr k x h), fun i i' bi bi' k s s' x hne hi hi' hl hl' => ?_⟩, hst⟩
  · rcases hget i bi hi with ⟨rfl, rfl⟩ | ⟨_, h⟩
    · simp [hro]
    · exact hI.ro i bi h
  · rcases hget i bi hi with ⟨rfl, rfl⟩ | ⟨hi', h⟩
    · rfl
    · exact hI.virt i bi h (by rwa [updn_ne β hi'] at hv)
  · rcases hget i bi hi with ⟨rfl, rfl⟩ | ⟨hi', h⟩
    · rw [updn_same] at hl; cases hl
    · rw [updn_ne β hi'] at hl
      exact hI.real i bi k s h hl
  · rcases hget i bi hi with ⟨rfl, rfl⟩ | ⟨hi', h⟩
    · rw [updn_same] at hl; cases hl
    · rw [updn_ne β hi'] at hl
      obtain ⟨x, g1, g0, g2⟩ := hI.cells i bi k s h hl j c hj
      exact ⟨x, g1, g0, g2.stp hst⟩
  · rcases hget i bi hi with ⟨rfl, rfl⟩ | ⟨h1, h⟩
    · rw [updn_same] at hl; cases hl
    · rcases hget i' bi' hi' with ⟨rfl, rfl⟩ | ⟨h1', h'⟩
      · rw [updn_same] at hl'; cases hl'
      · rw [updn_ne β h1] at hl
        rw [updn_ne β h1'] at hl'
        exact hI.apart i i' bi bi' k s s' x hne h h' hl hl'

/-- A box without memory changes its generation. -/
theorem replv {base : Nat} {w : World} {H : List Box} {β : Pl} {b : Nat} {bx bx' : Box} (hI : Inv base w H β) (hb : H[b]? = some bx) (hv : β b = none) (hc : bx'.cells = []) (hro : bx'.ro = 0) (hgen : bx.gen ≤ bx'.gen) :
    Inv base w (H.set b bx') β ∧ Stp base w H β w (H.set b bx') β := by
  have hbl : b < H.length := (List.getElem?_eq_some_iff.1 hb).1
  have hget : ∀ i bx1, (H.set b bx')[i]? = some bx1 → (i = b ∧ bx1 = bx') ∨ (i ≠ b ∧ H[i]? = some bx1) := by
    intro i bx1 h
    by_cases hi : i = b
    · subst hi
      rw [List.getElem?_set_self hbl] at h
      exact .inl ⟨rfl, (Option.some.inj h).symm⟩
    · rw [List.getElem?_set_ne (Ne.symm hi)] at h
      exact .inr ⟨hi, h⟩
  have hwr : ∀ k x, Wr (H.set b bx') β k x → Wr H β k x := by
    rintro k x ⟨i, bi, s, h1, h2, h3, h4⟩
    rcases hget i bi h1 with ⟨rfl, rfl⟩ | ⟨hi, h1⟩
    · rw [hv] at h2; cases h2
    · exact ⟨i, bi, s, h1, h2, h3, h4⟩
  have hst : Stp base w H β w (H.set b bx') β :=
    ⟨rfl, rfl, rfl, Nat.le_refl _, fun _ c _ fr h => ⟨c, fr, h, rfl, fun _ => rfl, fun h => h⟩, fun _ _ h _ => h, fun _ _ _ _ => rfl, fun k x _ h => hwr k x h, fun i bi hi => by
      by_cases hib : i = b
      · subst hib
        rw [hb] at hi
        obtain rfl := Option.some.inj hi
        exact ⟨bx', List.getElem?_set_self hbl, hgen, fun _ => rfl⟩
      · exact ⟨bi, by rw [List.getElem?_set_ne (Ne.symm hib)]; exact hi, Nat.le_refl _, fun _ => rfl⟩⟩
  refine ⟨⟨hI.bse, fun i bi hi => ?_, fun i bi hi hv' => ?_, fun i bi k s hi hl => ?_, fun i bi k s hi hl j c hj => ?_, fun k x h => hI.free k x (hwr k x h), fun i i' bi bi' k s s' x hne hi hi' hl hl' => ?_⟩, hst⟩
  · rcases hget i bi hi with ⟨rfl, rfl⟩ | ⟨_, h⟩
    · omega
    · exact hI.ro i bi h
  · rcases hget i bi hi with ⟨rfl, rfl⟩ | ⟨hi', h⟩
    · exact hc
    · exact hI.virt i bi h hv'
  · rcases hget i bi hi with ⟨rfl, rfl⟩ | ⟨hi', h⟩
    · rw [hv] at hl; cases hl
    · exact hI.real i bi k s h hl
  · rcases hget i bi hi with ⟨rfl, rfl⟩ | ⟨hi', h⟩
    · rw [hv] at hl; cases hl
    · obtain ⟨x, g1, g0, g2⟩ := hI.cells i bi k s h hl j c hj
      exact ⟨x, g1, g0, g2.stp hst⟩
  · rcases hget i bi hi with ⟨rfl, rfl⟩ | ⟨h1, h⟩
    · rw [hv] at hl; cases hl
    · rcases hget i' bi' hi' with ⟨rfl, rfl⟩ | ⟨h1', h'⟩
      · rw [hv] at hl'; cases hl'
      · exact hI.apart i i' bi bi' k s s' x hne h h' hl hl'

end Go.Proofs.YtjkdahpoalnjjaaDoor.VL

/- The value logic, part 2: what each operation of the model does to abstract values. -/
set_option linter.unusedVariables false
set_option linter.unusedSimpArgs false
namespace Go.Proofs.YtjkdahpoalnjjaaDoor.VL
open Go Go.RowKit

/-! ### Cells of a value -/
def AV.one : AV → Bool
  | .v x => x.oneCell'
  | .lst .. | .sl .. | .ptr .. | .elt .. | .fn .. | .emp | .bs .. => true
  | _ => false
def AV.cells : AV → Option (List AV)
  | .agg cs => some cs
  | a => if a.one then some [a] else none

theorem oneCell_cells {x : Value} (h : x.oneCell' = true) : x.cells = #[x] := by cases x <;> simp_all [Value.oneCell', Value.cells]

theorem Rep.one {w : World} {H : List Box} {β : Pl} {c : AV} {x : Value} (h : Rep w H β c x) (h1 : c.one = true) : x.oneCell' = true := by
  cases h with
  | v x => exact h1
  | sl b g o n sz full x bx hb hg hx h => obtain ⟨a, m, cap, rfl⟩ := hx; rfl
  | ptr b g o x bx hb hg hx h => obtain ⟨a, rfl⟩ := hx; rfl
  | bs b g n e x bx hb hg hx h ht => obtain ⟨a, m, cap, rfl, _⟩ := hx; rfl
  | _ => first | rfl | simp [AV.one] at h1

/-- The cells of a represented value are what its abstract cells say. -/
theorem Rep.cellsOf {w : World} {H : List Box} {β : Pl} {c : AV} {x : Value} {cs : List AV} (h : Rep w H β c x) (hc : c.cells = some cs) :
    x.cells.size = cs.length ∧ ∀ (i : Nat) (d : AV) (y : Value), cs[i]? = some d → x.cells[i]? = some y → Rep w H β d y := by
  cases c with
  | agg cs' =>
    simp only [AV.cells, Option.some.injEq] at hc
    subst hc
    cases h with
    | agg cs vs hl h => exact ⟨hl.symm, h⟩
  | tup _ => simp [AV.cells, AV.one] at hc
  | dead => simp [AV.cells, AV.one] at hc
  | _ =>
    all_goals
      simp only [AV.cells] at hc
      split at hc
      · rename_i h1
        rw [oneCell_cells (h.one h1)]
        injection hc with hc
        subst hc
        refine ⟨rfl, fun i d y hd hy => ?_⟩
        rcases i with _ | i
        · simp at hd hy
          subst hd; subst hy
          exact h
        · simp at hd
      · cases hc

/-! ### Types -/
def isAg (P : Program) (t : TypeId) : Bool := match P.underlying t with | some (.struct _) | some (.array _ _) => true | _ => false
theorem info_of_underlying {P : Program} {t : TypeId} {d : TypeDesc} (h : P.underlying t = some d) : ∃ i, P.info? t = some i ∧ i.size = P.cellsOf t ∧ i.bytes = P.bytesOf t := by
  unfold Program.underlying at h
  cases hi : P.info? t with
  | none => rw [hi] at h; cases h
  | some i => exact ⟨i, rfl, by simp [Program.cellsOf, hi], by simp [Program.bytesOf, hi]⟩
theorem run_sizeOf' {P : Program} {t : TypeId} {d : TypeDesc} (h : P.underlying t = some d) (w : World) : (sizeOf t).run P w = .ok (P.cellsOf t) w := by
  obtain ⟨i, h1, h2, _⟩ := info_of_underlying h
  simp [sizeOf, typeInfo, program, Sem.run, h1, h2]
theorem run_isAgg' {P : Program} {t : TypeId} {d : TypeDesc} (h : P.underlying t = some d) (w : World) : (isAgg t).run P w = .ok (isAg P t) w := by
  simp only [isAgg, Sem.run_bind, run_underlying h, Result.andThen_ok, isAg, h]
  cases d <;> rfl

/-! ### Loads -/
theorem add_plain (k s j : Nat) : (⟨k, s, none⟩ : Addr).add j = ⟨k, s + j, none⟩ := by unfold Addr.add; split <;> simp_all

def aload (P : Program) (t : TypeId) (cs : List AV) (o : Nat) : Option AV :=
  match P.underlying t with
  | none => none
  | some _ =>
    if isAg P t then (if o + P.cellsOf t ≤ cs.length then some (.agg ((cs.drop o).take (P.cellsOf t))) else none) else cs[o]?

theorem run_load_cells {P : Program} {w : World} {H : List Box} {β : Pl} {t : TypeId} {cs : List AV} {o k s : Nat} {r : AV} (hr : aload P t cs o = some r)
    (hc : ∀ (j : Nat) (c : AV), cs[j]? = some c → ∃ x, w.cell? ⟨k, s + j, none⟩ = some x ∧ Rep w H β c x) :
    ∃ v, (loadVar t ⟨k, s + o, none⟩).run P w = .ok v w ∧ Rep w H β r v := by
  unfold aload at hr
  split at hr
  · cases hr
  · rename_i d hd
    split at hr
    · rename_i hag
      split at hr
      · rename_i hlen
        injection hr with hr
        subst hr
        have hx : ∀ j, j < P.cellsOf t → ∃ x, w.cell? ⟨k, s + o + j, none⟩ = some x := fun j hj => by
          obtain ⟨x, h1, _⟩ := hc (o + j) (cs[o + j]'(by omega)) (List.getElem?_eq_getElem (by omega))
          exact ⟨x, by rw [Nat.add_assoc]; exact h1⟩
        let f : Nat → Value := fun j => (w.cell? ⟨k, s + o + j, none⟩).getD undef
        have hf : ∀ j, j < P.cellsOf t → w.cell? ((⟨k, s + o, none⟩ : Addr).add j) = some (f j) := fun j hj => by
          obtain ⟨x, h1⟩ := hx j hj
          simp only [add_plain, f, h1, Option.getD_some]
        refine ⟨.agg ((List.range (P.cellsOf t)).map f).toArray, ?_, ?_⟩
        · simp only [loadVar, Sem.run_bind, run_isAgg' hd, Result.andThen_ok, hag, if_true, run_sizeOf' hd, run_loadCells w _ _ f hf, Sem.run_pure]
        · refine .agg _ _ (by simp <;> omega) fun i c x h1 h2 => ?_
          have hi : i < P.cellsOf t := by
            have := (List.getElem?_eq_some_iff.1 h1).1
            simp at this
            omega
          rw [List.getElem?_take_of_lt hi, List.getElem?_drop] at h1
          obtain ⟨y, g1, g2⟩ := hc _ _ h1
          simp [hi] at h2
          subst h2
          have : f i = y := by simp only [f, Nat.add_assoc, g1, Option.getD_some]
          rw [this]
          exact g2
      · cases hr
    · rename_i hag
      obtain ⟨x, h1, h2⟩ := hc o r hr
      refine ⟨x, ?_, h2⟩
      simp only [loadVar, Sem.run_bind, run_isAgg' hd, Result.andThen_ok, Bool.not_eq_true] at hag ⊢
      simp [hag, h1]

/-! ### What an operation does -/
def Does (P : Program) (ρ : Operand → Value) (o : Oper) (base : Nat) (w : World) (H : List Box) (β : Pl) (r : AV) (H' : List Box) : Prop :=
  ∃ v w' β', ((execOp ρ o).run P w = .ok (.value v) w' ∨ ((execOp ρ o).run P w = .ok .skip w' ∧ v = undef)) ∧ Inv base w' H' β' ∧ Stp base w H β w' H' β' ∧ Rep w' H' β' r v

section ops
variable {P : Program} {ρ : Operand → Value} {A : Operand → AV} {o : Oper} {base : Nat} {w : World} {H : List Box} {β : Pl}

theorem Does.same (hI : Inv base w H β) {r : AV} {v : Value} (h : (execOp ρ o).run P w = .ok (.value v) w) (hr : Rep w H β r v) : Does P ρ o base w H β r H :=
  ⟨v, w, β, .inl h, hI, Stp.refl _ _ _, hr⟩

theorem does_move (hI : Inv base w H β) (hA : ∀ x, Rep w H β (A x) (ρ x)) {x : Operand} (ho : o.op = .move x) : Does P ρ o base w H β (A x) H :=
  .same hI (by simp [execOp, ho]) (hA x)
theorem does_assign (hI : Inv base w H β) (hA : ∀ x, Rep w H β (A x) (ρ x)) {x : Operand} (ho : o.op = .assign x) : Does P ρ o base w H β (A x) H :=
  .same hI (by simp [execOp, ho]) (hA x)

def apick (t : Bool) (a b : AV) : AV :=
  match a, b with
  | .v (.bool p), .v (.bool q) => .v (.bool (if t then p else q))
  | a, b => if t then a else b
theorem apick_eq (t : Bool) (a b : AV) : apick t a b = if t then a else b := by
  unfold apick
  split
  · split <;> rfl
  · rfl
theorem does_pick (hI : Inv base w H β) (hA : ∀ x, Rep w H β (A x) (ρ x)) {c a b : Operand} (ho : o.op = .pick c a b) {t : Bool} (hc : A c = .v (.bool t)) : Does P ρ o base w H β (apick t (A a) (A b)) H := by
  have h := hA c
  rw [hc] at h
  generalize hv : ρ c = v at h
  cases h
  rw [apick_eq]
  cases t with
  | true => exact .same hI (by simp [execOp, ho, hv, asBool]) (hA a)
  | false => exact .same hI (by simp [execOp, ho, hv, asBool]) (hA b)

/-! ### Loads, stores -/
def aloadAt (P : Program) (t : TypeId) (H : List Box) : AV → Option AV
  | .ptr b g o => match H[b]? with
    | some bx => if bx.gen = g then aload P t bx.cells o else none
    | none => none
  | .elt g j => aload P t g j
  | _ => none

theorem does_load (hI : Inv base w H β) (hA : ∀ x, Rep w H β (A x) (ρ x)) {x : Operand} {t : TypeId} (ho : o.op = .load t x) {r : AV} (h : aloadAt P t H (A x) = some r) : Does P ρ o base w H β r H := by
  have hx := hA x
  unfold aloadAt at h
  split at h
  · rename_i b g off hAx
    rw [hAx] at hx
    split at h
    · rename_i bx hb
      split at h
      · rename_i hg
        generalize hv : ρ x = v at hx
        cases hx with
        | ptr _ _ _ _ bx' hb' hg' _ hp =>
          rw [hb] at hb'
          obtain rfl := Option.some.inj hb'
          obtain ⟨k, s, h1, rfl⟩ := hp hg
          obtain ⟨v, h2, h3⟩ := run_load_cells h (fun j c hj => by obtain ⟨x, e1, _, e2⟩ := hI.cells b bx k s hb h1 j c hj; exact ⟨x, e1, e2⟩)
          exact .same hI (by simp [execOp, ho, hv, Instr.loadAt, Instr.sureAddr, h2]) h3
      · cases h
    · cases h
  · rename_i g j hAx
    rw [hAx] at hx
    generalize hv : ρ x = v at hx
    cases hx with
    | elt _ _ k s y hc hr =>
      obtain ⟨v, h2, h3⟩ := run_load_cells h (fun j c hj => ⟨y j, (hc j c hj).1, hr j c hj⟩)
      exact .same hI (by simp [execOp, ho, hv, Instr.loadAt, Instr.sureAddr, h2]) h3
  · cases h

/-- Cells are laid over others. -/
def splice : List AV → Nat → List AV → List AV
  | l, _, [] => l
  | l, o, c :: r => splice (l.set o c) (o + 1) r
theorem splice_length (l : List AV) (o : Nat) (cs : List AV) : (splice l o cs).length = l.length := by
  induction cs generalizing l o with
  | nil => rfl
  | cons c r ih => simp [splice, ih]
theorem splice_get (cs : List AV) : ∀ (l : List AV) (o j : Nat), o + cs.length ≤ l.length → (splice l o cs)[j]? = if o ≤ j ∧ j < o + cs.length then cs[j - o]? else l[j]? := by
  induction cs with
  | nil => intro l o j _; simp [splice]; intro h1 h2; omega
  | cons c r ih =>
    intro l o j h
    simp only [List.length_cons] at h
    rw [splice, ih _ _ _ (by simp <;> omega)]
    by_cases h1 : o + 1 ≤ j ∧ j < o + 1 + r.length
    · rw [if_pos h1, if_pos (by simp <;> omega)]
      have : j - o = (j - (o + 1)) + 1 := by omega
      rw [this, List.getElem?_cons_succ]
    · rw [if_neg h1]
      by_cases h2 : j = o
      · subst h2
        rw [List.getElem?_set_self (by omega), if_pos (by simp)]
        simp
      · rw [List.getElem?_set_ne (Ne.symm h2), if_neg (by simp <;> omega)]

/-- Cells of the model are written, one behind another. -/
def stor (w : World) (k s : Nat) : List Value → World
  | [] => w
  | v :: r => stor (w.setCell ⟨k, s, none⟩ v) k (s + 1) r
theorem Wor.stor (vs : List Value) : ∀ (w : World) (k s : Nat), Wor w (stor w k s vs) := by
  induction vs with
  | nil => intro w k s; exact Wor.refl w
  | cons v r ih => intro w k s; exact (Wor.setCell w ⟨k, s, none⟩ v).trans (ih _ k (s + 1))
theorem setCell_same {w : World} {k s : Nat} {v : Value} (h : (w.cell? ⟨k, s, none⟩).isSome = true) : (w.setCell ⟨k, s, none⟩ v).cell? ⟨k, s, none⟩ = some v := by
  obtain ⟨u, hu⟩ := Option.isSome_iff_exists.1 h
  unfold World.cell? at hu ⊢
  simp only [World.setCell, Array.getElem?_modify] at hu ⊢
  split at hu
  · rename_i c e fr hc
    rw [hc]
    simp at hu ⊢
    have := (Array.getElem?_eq_some_iff.1 hu).1
    simp [this]
  · cases hu
theorem setCell_other {w : World} {k s k' x : Nat} {v : Value} (h : ¬ (k' = k ∧ x = s)) : (w.setCell ⟨k, s, none⟩ v).cell? ⟨k', x, none⟩ = w.cell? ⟨k', x, none⟩ := by
  by_cases hk : k' = k
  · subst hk
    have hx : s ≠ x := fun e => h ⟨rfl, e.symm⟩
    unfold World.cell?
    simp only [World.setCell, Array.getElem?_modify, if_pos]
    cases w.heap[k']? with
    | none => rfl
    | some o => cases o <;> simp [hx]
  · exact World.cell?_of_block (w := w) (Below.heap_setCell w _ v k' hk)
theorem stor_cell (vs : List Value) : ∀ (w : World) (k s k' x : Nat), (∀ j, j < vs.length → (w.cell? ⟨k, s + j, none⟩).isSome = true) →
    (stor w k s vs).cell? ⟨k', x, none⟩ = if k' = k ∧ s ≤ x ∧ x < s + vs.length then vs[x - s]? else w.cell? ⟨k', x, none⟩ := by
  induction vs with
  | nil => intro w k s k' x _; rw [if_neg (by simp <;> omega)]; rfl
  | cons v r ih =>
    intro w k s k' x h
    have h0 : (w.cell? ⟨k, s, none⟩).isSome = true := by simpa using h 0 (by simp)
    rw [stor, ih _ k (s + 1) k' x (fun j hj => by
      rw [setCell_other (by omega)]
      have := h (j + 1) (by simp <;> omega)
      rwa [show s + (j + 1) = s + 1 + j by omega] at this)]
    by_cases h1 : k' = k ∧ s + 1 ≤ x ∧ x < s + 1 + r.length
    · rw [if_pos h1, if_pos (by simp <;> omega)]
      have : x - s = (x - (s + 1)) + 1 := by omega
      rw [this, List.getElem?_cons_succ]
    · rw [if_neg h1]
      by_cases h2 : k' = k ∧ x = s
      · obtain ⟨rfl, rfl⟩ := h2
        rw [setCell_same h0, if_pos (by simp)]
        simp
      · rw [setCell_other h2, if_neg (by simp <;> omega)]
theorem stor_frozen {w : World} {k s : Nat} {v : Value} (k' x : Nat) : (w.setCell ⟨k, s, none⟩ v).frozen? ⟨k', x, none⟩ = w.frozen? ⟨k', x, none⟩ := by
  unfold World.frozen?
  simp only [World.setCell, Array.getElem?_modify]
  by_cases hk : k = k'
  · subst hk
    simp only [if_pos]
    cases w.heap[k]? with
    | none => rfl
    | some o => cases o <;> rfl
  · rw [if_neg hk]
theorem run_storeCells' (vs : List Value) : ∀ (w : World) (k s i : Nat), (∀ v ∈ vs, v.oneCell' = true) → (∀ j, j < vs.length → (w.cell? ⟨k, s + i + j, none⟩).isSome = true) → (∀ j, j < vs.length → w.frozen? ⟨k, s + i + j, none⟩ = false) →
    (storeCells ⟨k, s, none⟩ vs i).run P w = .ok () (stor w k (s + i) vs) := by
  induction vs with
  | nil => intro w k s i _ _ _; rfl
  | cons v r ih =>
    intro w k s i h1 h2 h3
    have h0 : (w.cell? ⟨k, s + i, none⟩).isSome = true := by simpa using h2 0 (by simp)
    have hf : w.frozen? ⟨k, s + i, none⟩ = false := by simpa using h3 0 (by simp)
    obtain ⟨u, hu⟩ := Option.isSome_iff_exists.1 h0
    have hv := h1 v (by simp)
    have hst : (store ((⟨k, s, none⟩ : Addr).add i) v).run P w = .ok () (w.setCell ⟨k, s + i, none⟩ v) := by
      rw [add_plain]
      cases v <;> first | (simp [Value.oneCell'] at hv; done) | simp [store, Sem.run, hu, hf]
    simp only [storeCells, Sem.run_bind, hst, Result.andThen_ok]
    rw [ih _ k s (i + 1) (fun u hu => h1 u (by simp [hu])) (fun j hj => by
        rw [setCell_other (by omega)]
        have := h2 (j + 1) (by simp <;> omega)
        rwa [show s + i + (j + 1) = s + (i + 1) + j by omega] at this)
      (fun j hj => by
        rw [stor_frozen]
        have := h3 (j + 1) (by simp <;> omega)
        rwa [show s + i + (j + 1) = s + (i + 1) + j by omega] at this)]
    rfl

def astoreAt (P : Program) (t : TypeId) (H : List Box) : AV → AV → Option (List Box)
  | .ptr b g o, x => match H[b]?, x.cells with
    | some bx, some cs =>
      if bx.gen = g ∧ bx.ro ≤ o ∧ cs.length = P.cellsOf t ∧ o + cs.length ≤ bx.cells.length ∧ cs.all AV.one = true ∧ (P.underlying t).isSome = true then
        some (H.set b { bx with cells := splice bx.cells o cs }) else none
    | _, _ => none
  | _, _ => none

/-- Cells of a box are written. -/
theorem write_box {k s o' : Nat} {b : Nat} {bx : Box} (hI : Inv base w H β) (hb : H[b]? = some bx) (hl : β b = some (k, s)) (cs : List AV) (vs : List Value) (hlen : vs.length = cs.length)
    (hr : ∀ (i : Nat) (d : AV) (y : Value), cs[i]? = some d → vs[i]? = some y → Rep w H β d y) (h1 : ∀ v ∈ vs, v.oneCell' = true) (hro : bx.ro ≤ o') (hfit : o' + cs.length ≤ bx.cells.length) :
    (storeCells ⟨k, s + o', none⟩ vs).run P w = .ok () (stor w k (s + o') vs) ∧ Inv base (stor w k (s + o') vs) (H.set b { bx with cells := splice bx.cells o' cs }) β ∧ Stp base w H β (stor w k (s + o') vs) (H.set b { bx with cells := splice bx.cells o' cs }) β := by
  have hcell : ∀ j, j < bx.cells.length → ∃ x, w.cell? ⟨k, s + j, none⟩ = some x := fun j hj => by
    obtain ⟨x, h, _, _⟩ := hI.cells b bx k s hb hl j _ (List.getElem?_eq_getElem hj)
    exact ⟨x, h⟩
  have hsome : ∀ j, j < vs.length → (w.cell? ⟨k, s + o' + j, none⟩).isSome = true := fun j hj => by
    obtain ⟨x, hx⟩ := hcell (o' + j) (by omega)
    rw [Nat.add_assoc, hx]; rfl
  have hfree : ∀ j, j < vs.length → w.frozen? ⟨k, s + o' + j, none⟩ = false := fun j hj => hI.free _ _ ⟨b, bx, s, hb, hl, by omega, .inr (by omega)⟩
  have hrun := run_storeCells' (P := P) vs w k (s + o') 0 h1 (by simpa using hsome) (by simpa using hfree)
  refine ⟨by simpa using hrun, ?_⟩
  have hupd : upd β b (k, s) = β := by
    funext i
    by_cases hi : i = b
    · subst hi; rw [upd_same, hl]
    · rw [upd_ne β _ hi]
  obtain ⟨g1, g2⟩ := hI.real b bx k s hb hl
  have hfr : ∀ (vs : List Value) (w : World) (s k' x : Nat), (stor w k s vs).frozen? ⟨k', x, none⟩ = w.frozen? ⟨k', x, none⟩ := by
    intro vs
    induction vs with
    | nil => intros; rfl
    | cons v r ih => intro w s k' x; rw [stor, ih, stor_frozen]
  have := repl (w' := stor w k (s + o') vs) (bx' := { bx with cells := splice bx.cells o' cs }) (k' := k) (s' := s) hI hb (Wor.stor vs w k (s + o'))
    (fun k' x => k' = k ∧ s + o' ≤ x ∧ x < s + o' + vs.length)
    (fun k' x ⟨e, a1, a2⟩ => by subst e; exact ⟨s, hl, by omega, .inr (by omega)⟩)
    (fun k' x hk hn => by rw [stor_cell vs w k _ k' x hsome, if_neg (by simpa [and_assoc] using hn)])
    ⟨g1, Nat.lt_of_lt_of_le g2 (Wor.stor vs w k (s + o')).size⟩ (by simp only [splice_length]; exact hI.ro b bx hb)
    (.inr ⟨s, hl, Nat.le_refl _, Nat.le_refl _, fun h => h, .inr (by simp only [splice_length]; exact Nat.le_refl _)⟩) (Nat.le_refl _) (fun _ => hl) (fun h => by omega)
    (fun j c hj => by
      simp only [splice_get cs _ _ _ hfit] at hj
      rw [stor_cell vs w k _ k (s + j) hsome]
      split at hj
      · rename_i hh
        rw [if_pos (by omega)]
        have : s + j - (s + o') = j - o' := by omega
        rw [this]
        exact ⟨vs[j - o']'(by omega), List.getElem?_eq_getElem (by omega), h1 _ (List.getElem_mem _), hr (j - o') c _ hj (List.getElem?_eq_getElem (by omega))⟩
      · rename_i hh
        rw [if_neg (by omega)]
        exact hI.cells b bx k s hb hl j c hj)
  rwa [hupd] at this

theorem does_store (hI : Inv base w H β) (hA : ∀ x, Rep w H β (A x) (ρ x)) {x y : Operand} {t : TypeId} (ho : o.op = .store t x y) {H' : List Box} (h : astoreAt P t H (A x) (A y) = some H') : Does P ρ o base w H β .dead H' := by
  have hx := hA x
  have hy := hA y
  unfold astoreAt at h
  split at h
  · rename_i b g off z hAx
    rw [hAx] at hx
    split at h
    · rename_i bx cs hb hcs
      split at h
      · rename_i hh
        obtain ⟨hg, hro, hsz, hfit, hone, hu⟩ := hh
        injection h with h
        subst h
        generalize hv : ρ x = v at hx
        cases hx with
        | ptr _ _ _ _ bx' hb' hg' _ hp =>
          rw [hb] at hb'
          obtain rfl := Option.some.inj hb'
          obtain ⟨k, s, h1, rfl⟩ := hp hg
          obtain ⟨e1, e2⟩ := hy.cellsOf hcs
          obtain ⟨d, hd⟩ := Option.isSome_iff_exists.1 hu
          obtain ⟨r1, r2, r3⟩ := write_box (P := P) hI hb h1 cs (ρ y).cells.toList (by simpa using e1) (fun i d y hd hy => e2 i d y hd (by simpa using hy)) (fun v hv => by
            obtain ⟨i, hi, rfl⟩ := List.mem_iff_getElem.1 hv
            simp only [Array.length_toList] at hi
            have hi' : i < cs.length := by omega
            have := e2 i (cs[i]'hi') _ (List.getElem?_eq_getElem hi') (Array.getElem?_eq_getElem hi)
            exact this.one (List.all_eq_true.1 hone _ (List.getElem_mem hi'))) hro hfit
          refine ⟨undef, _, β, .inr ⟨?_, rfl⟩, r2, r3, .dead _⟩
          have hcs' : (ρ y).cells.size = P.cellsOf t := by omega
          simp [execOp, ho, hv, Instr.storeAt, Instr.sureAddr, storeVar, run_sizeOf' hd, hcs', r1]
      · cases h
    · cases h
  · cases h

end ops
end Go.Proofs.YtjkdahpoalnjjaaDoor.VL

/- The value logic, part 3: more operations: new variables, literals, fields, indexes, slices. -/
set_option linter.unusedVariables false
set_option linter.unusedSimpArgs false
namespace Go.Proofs.YtjkdahpoalnjjaaDoor.VL
open Go Go.RowKit

section ops
variable {P : Program} {ρ : Operand → Value} {A : Operand → AV} {o : Oper} {base : Nat} {w : World} {H : List Box} {β : Pl}

theorem alloc_run {P : Program} (w : World) (c : Array Value) (e : TypeId) : (newRow e c).run P w = .ok ⟨w.heap.size, 0, none⟩ (w.alloc (.cells c e)) := by
  simp [newRow, newObj, Sem.run, World.alloc_eq]

/-- A cell of a zero value; a slice that is nil counts as empty. -/
def zcell : Value → AV
  | .slice none 0 0 => .emp
  | .agg _ => .dead
  | .tuple _ => .dead
  | x => .v x
theorem rep_zcell (x : Value) : Rep w H β (zcell x) x := by
  unfold zcell
  split <;> first | exact .emp _ | exact .dead _ | exact .v _
def zeroCs (P : Program) (t : TypeId) : Option (List AV) := ((P.info? t).bind (·.zero)).bind fun z => if z.cells.toList.all (·.oneCell') then some (z.cells.toList.map zcell) else none
theorem zero_run {t : TypeId} {cs : List AV} (h : zeroCs P t = some cs) (w : World) : ∃ z, (zeroValue t).run P w = .ok z w ∧ cs = z.cells.toList.map zcell ∧ ∀ (i : Nat) (y : Value), z.cells[i]? = some y → y.oneCell' = true := by
  unfold zeroCs at h
  obtain ⟨z, h1, h2⟩ := Option.bind_eq_some_iff.1 h
  obtain ⟨i, h3, h4⟩ := Option.bind_eq_some_iff.1 h1
  split at h2
  · rename_i hall
    injection h2 with h2
    exact ⟨z, by simp [zeroValue, typeInfo, program, Sem.run, h3, h4], h2.symm, fun i y hy => List.all_eq_true.1 hall y (by
      rw [← Array.getElem?_toList] at hy
      exact List.mem_of_getElem? hy)⟩
  · cases h2

def newBox (H : List Box) (cs : List AV) : AV × List Box := (.ptr H.length 0 0, H ++ [⟨cs, 0, 0, false⟩])

theorem does_new (hI : Inv base w H β) (cs : List AV) (vs : Array Value) (e : TypeId) (hlen : vs.size = cs.length) (h1 : ∀ (i : Nat) (y : Value), vs[i]? = some y → y.oneCell' = true) (hr : ∀ (i : Nat) (d : AV) (y : Value), cs[i]? = some d → vs[i]? = some y → Rep w H β d y) (g : Bool) :
    ∃ β', Inv base (w.alloc (.cells vs e)) (H ++ [⟨cs, 0, 0, g⟩]) β' ∧ Stp base w H β (w.alloc (.cells vs e)) (H ++ [⟨cs, 0, 0, g⟩]) β' ∧ β' H.length = some (w.heap.size, 0) := by
  have := newb hI vs e ⟨cs, 0, 0, g⟩ (Nat.zero_le _) (fun j c hj => by
    have hj' := (List.getElem?_eq_some_iff.1 hj).1
    exact ⟨vs[j]'(by simp at hj'; omega), Array.getElem?_eq_getElem _, h1 j _ (Array.getElem?_eq_getElem _), hr j c _ hj (Array.getElem?_eq_getElem _)⟩)
  exact ⟨_, this.1, this.2, upd_same _ _ _⟩

theorem does_alloc (hI : Inv base w H β) {t : TypeId} (ho : o.op = .alloc t) {cs : List AV} (h : zeroCs P t = some cs) : Does P ρ o base w H β (newBox H cs).1 (newBox H cs).2 := by
  obtain ⟨z, h1, rfl, h0⟩ := zero_run h w
  obtain ⟨β', g1, g2, g3⟩ := does_new hI (z.cells.toList.map zcell) z.cells t (by simp) h0 (fun i d y hd hy => by
    simp only [List.getElem?_map, Array.getElem?_toList, hy, Option.map_some, Option.some.injEq] at hd
    subst hd
    exact rep_zcell y) false
  refine ⟨.pointer (some ⟨w.heap.size, 0, none⟩), _, β', .inl ?_, g1, g2, ?_⟩
  · simp [execOp, ho, Instr.alloc, h1, newVar, alloc_run]
  · exact .ptr _ _ _ _ ⟨z.cells.toList.map zcell, 0, 0, false⟩ (by simp [newBox]) (Nat.le_refl _) ⟨_, rfl⟩ fun _ => ⟨_, _, g3, rfl⟩

/-- A struct whose first part may hold its own address (strings.Builder). -/
def selfTy (P : Program) (t : TypeId) : Bool :=
  match P.underlying t with
  | some (.struct fs) => match fs[0]? with
    | some f => (match P.underlying f.type with
      | some (.pointer t') => t' == t
      | _ => false) && (P.cellsOf t == 2)
    | none => false
  | _ => false
def selfBox (H : List Box) (t : TypeId) (cs : List AV) : AV × List Box := (.ptr H.length 0 0, H ++ [⟨[.bself H.length 0 t, .v (.slice none 0 0)], 0, 0, false⟩])
def selfOk : List AV → Bool
  | [.v (.pointer none), .emp] => true
  | _ => false
theorem zcell_emp {x : Value} (h : zcell x = .emp) : x = .slice none 0 0 := by
  unfold zcell at h
  split at h <;> first | rfl | cases h
theorem does_allocS (hI : Inv base w H β) {t : TypeId} (ho : o.op = .alloc t) {cs : List AV} (h : zeroCs P t = some cs) (hok : selfOk cs = true) : Does P ρ o base w H β (selfBox H t cs).1 (selfBox H t cs).2 := by
  obtain ⟨z, h1, rfl, h0⟩ := zero_run h w
  have hy : z.cells.toList.map zcell = [.v (.pointer none), .emp] := by
    unfold selfOk at hok
    split at hok
    · rename_i hy; exact hy
    · cases hok
  have hsz : z.cells.size = 2 := by have := congrArg List.length hy; simpa using this
  obtain ⟨y, hz1⟩ : ∃ y, z.cells[1]? = some y := ⟨z.cells[1]'(by omega), Array.getElem?_eq_getElem _⟩
  have hy1 : y = .slice none 0 0 := by
    have := congrArg (fun l => l[1]?) hy
    simp only [List.getElem?_map, Array.getElem?_toList, hz1, Option.map_some] at this
    exact zcell_emp (by simpa using this)
  subst hy1
  obtain ⟨β', g1, g2, g3⟩ := does_new hI [.v (.pointer none), .v (.slice none 0 0)] z.cells t (by simp [hsz]) h0 (fun i d y hd hyy => by
    rcases i with _ | _ | i
    · simp at hd
      subst hd
      have := congrArg (fun l => l[0]?) hy
      simp only [List.getElem?_map, Array.getElem?_toList, hyy, Option.map_some] at this
      have h2 := rep_zcell (w := w) (H := H) (β := β) y
      rw [show zcell y = .v (.pointer none) by simpa using this] at h2
      exact h2
    · simp at hd
      subst hd
      rw [hz1] at hyy
      injection hyy with hyy
      subst hyy
      exact .v _
    · simp at hd) false
  have hb : (H ++ [(⟨[.v (.pointer none), .v (.slice none 0 0)], 0, 0, false⟩ : Box)])[H.length]? = some ⟨[.v (.pointer none), .v (.slice none 0 0)], 0, 0, false⟩ := by simp
  have hcells := g1.cells H.length _ _ _ hb g3
  have := repl (bx' := ⟨[.bself H.length 0 t, .v (.slice none 0 0)], 0, 0, false⟩) (k' := w.heap.size) (s' := 0) g1 hb (Wor.refl _) (fun _ _ => False) (fun _ _ h => h.elim) (fun _ _ _ _ => rfl)
    ⟨g1.real _ _ _ _ hb g3 |>.1, g1.real _ _ _ _ hb g3 |>.2⟩ (Nat.zero_le _) (.inr ⟨0, g3, Nat.le_refl _, Nat.le_refl _, fun h => h, .inr (Nat.le_refl _)⟩) (Nat.le_refl _) (fun _ => g3) (fun h => absurd (g1.real _ _ _ _ hb g3).2 (by omega)) (fun j c hj => by
      rcases j with _ | _ | j
      · obtain ⟨x, e1, e2, e3⟩ := hcells 0 _ rfl
        simp at hj
        subst hj
        refine ⟨x, e1, e2, ?_⟩
        cases e3
        exact .bself _ _ _ _ _ hb (Nat.le_refl _) ⟨_, rfl⟩ fun _ => ⟨_, _, _, g3, .inl rfl, Array.getElem?_push_size, hsz⟩
      · simp at hj
        subst hj
        exact hcells 1 _ rfl
      · simp at hj)
  obtain ⟨k1, k2⟩ := this
  have hset : (H ++ [(⟨[.v (.pointer none), .v (.slice none 0 0)], 0, 0, false⟩ : Box)]).set H.length ⟨[.bself H.length 0 t, .v (.slice none 0 0)], 0, 0, false⟩ = H ++ [⟨[.bself H.length 0 t, .v (.slice none 0 0)], 0, 0, false⟩] := by
    rw [List.set_append_right _ _ (Nat.le_refl _), Nat.sub_self]; rfl
  rw [hset] at k1 k2
  refine ⟨.pointer (some ⟨w.heap.size, 0, none⟩), _, _, .inl ?_, k1, g2.trans k2, ?_⟩
  · simp [execOp, ho, Instr.alloc, h1, newVar, alloc_run]
  · exact .ptr _ _ _ _ ⟨[.bself H.length 0 t, .v (.slice none 0 0)], 0, 0, false⟩ (by simp [selfBox]) (Nat.le_refl _) ⟨_, rfl⟩ fun _ => ⟨w.heap.size, 0, upd_same _ _ _, rfl⟩

theorem does_box (hI : Inv base w H β) (hA : ∀ x, Rep w H β (A x) (ρ x)) {t : TypeId} {x : Operand} (ho : o.op = .box t x) {cs : List AV} (h : (A x).cells = some cs) (hone : cs.all AV.one = true) : Does P ρ o base w H β (newBox H cs).1 (newBox H cs).2 := by
  obtain ⟨e1, e2⟩ := (hA x).cellsOf h
  obtain ⟨β', g1, g2, g3⟩ := does_new hI cs (ρ x).cells t e1 (fun i y hy => by
    have hi := (Array.getElem?_eq_some_iff.1 hy).1
    have hi' : i < cs.length := by omega
    exact (e2 i (cs[i]'hi') y (List.getElem?_eq_getElem hi') hy).one (List.all_eq_true.1 hone _ (List.getElem_mem hi'))) e2 false
  refine ⟨.pointer (some ⟨w.heap.size, 0, none⟩), _, β', .inl ?_, g1, g2, ?_⟩
  · simp [execOp, ho, Instr.box, newVar, alloc_run]
  · exact .ptr _ _ _ _ ⟨cs, 0, 0, false⟩ (by simp [newBox]) (Nat.le_refl _) ⟨_, rfl⟩ fun _ => ⟨_, _, g3, rfl⟩

/-! ### Literals -/
def afill (place : Nat → Option (Nat × Nat)) (cells : List AV) : List (Nat × AV) → Option (List AV)
  | [] => some cells
  | (i, v) :: rest =>
    match place i, v.cells with
    | some (off, size), some cs => if cs.length ≠ size ∨ off + cs.length > cells.length then none else afill place (splice cells off cs) rest
    | _, _ => none

theorem fold_set (vs : List Value) : ∀ (cs : Array Value) (off k : Nat), ((vs.zipIdx k).foldl (fun cs (c, j) => cs.setIfInBounds (off + j) c) cs).size = cs.size ∧
    ∀ i, off + k + vs.length ≤ cs.size → ((vs.zipIdx k).foldl (fun cs (c, j) => cs.setIfInBounds (off + j) c) cs)[i]? = if off + k ≤ i ∧ i < off + k + vs.length then vs[i - (off + k)]? else cs[i]? := by
  induction vs with
  | nil => intro cs off k; exact ⟨rfl, fun i _ => by rw [if_neg (by simp <;> omega)]; rfl⟩
  | cons v r ih =>
    intro cs off k
    simp only [List.zipIdx_cons, List.foldl_cons]
    obtain ⟨h1, h2⟩ := ih (cs.setIfInBounds (off + k) v) off (k + 1)
    refine ⟨by rw [h1]; simp, fun i hi => ?_⟩
    simp only [List.length_cons] at hi
    rw [h2 i (by simp; omega)]
    by_cases hh : off + (k + 1) ≤ i ∧ i < off + (k + 1) + r.length
    · rw [if_pos hh, if_pos (by simp <;> omega)]
      have : i - (off + k) = (i - (off + (k + 1))) + 1 := by omega
      rw [this, List.getElem?_cons_succ]
    · rw [if_neg hh]
      by_cases hk : i = off + k
      · subst hk
        rw [if_pos (by simp <;> omega), Array.getElem?_setIfInBounds_self]
        simp; omega
      · rw [Array.getElem?_setIfInBounds_ne (by omega), if_neg (by simp <;> omega)]

theorem fill_rep (place : Nat → Option (Nat × Nat)) : ∀ (ps : List (Nat × Value)) (as : List (Nat × AV)) (vs : Array Value) (cs : List AV) (out : List AV),
    vs.size = cs.length → (∀ (i : Nat) (d : AV) (y : Value), cs[i]? = some d → vs[i]? = some y → Rep w H β d y) →
    ps.length = as.length → (∀ (i : Nat) (p : Nat × Value) (q : Nat × AV), ps[i]? = some p → as[i]? = some q → p.1 = q.1 ∧ Rep w H β q.2 p.2) →
    afill place cs as = some out → ∃ vs', Instr.fill place vs ps = some vs' ∧ vs'.size = out.length ∧ ∀ (i : Nat) (d : AV) (y : Value), out[i]? = some d → vs'[i]? = some y → Rep w H β d y := by
  intro ps
  induction ps with
  | nil =>
    intro as vs cs out hs hr hl _ h
    obtain rfl : as = [] := List.eq_nil_of_length_eq_zero hl.symm
    simp only [afill, Option.some.injEq] at h
    subst h
    exact ⟨vs, rfl, hs, hr⟩
  | cons p ps ih =>
    intro as vs cs out hs hr hl hp h
    cases as with
    | nil => simp at hl
    | cons q as =>
      obtain ⟨i, v⟩ := p
      obtain ⟨i', c⟩ := q
      obtain ⟨e, hc⟩ := hp 0 (i, v) (i', c) rfl rfl
      dsimp only at e hc
      subst e
      simp only [afill] at h
      split at h
      · rename_i off size ds hpl hds
        split at h
        · cases h
        · rename_i hcond
          obtain ⟨g1, g2⟩ := hc.cellsOf hds
          have hcond' : ds.length = size ∧ off + ds.length ≤ cs.length := by
            rw [not_or] at hcond
            exact ⟨Classical.not_not.1 hcond.1, Nat.le_of_not_lt hcond.2⟩
          have hfold := fold_set v.cells.toList vs off 0
          obtain ⟨vs', r1, r2, r3⟩ := ih as (v.cells.zipIdx.foldl (fun cs (c, j) => cs.setIfInBounds (off + j) c) vs) (splice cs off ds) out (by
              rw [← Array.foldl_toList, Array.toList_zipIdx, hfold.1, splice_length, hs]) (fun j d y hd hy => by
              rw [← Array.foldl_toList, Array.toList_zipIdx, hfold.2 j (by simp; omega)] at hy
              rw [splice_get ds _ _ _ hcond'.2] at hd
              simp only [Array.length_toList, Nat.add_zero, g1] at hy
              split at hd
              · rename_i hh
                rw [if_pos hh] at hy
                exact g2 _ d y hd (by simpa using hy)
              · rename_i hh
                rw [if_neg hh] at hy
                exact hr j d y hd hy) (by simpa using hl) (fun j p q hp' hq => hp (j + 1) p q (by simpa using hp') (by simpa using hq)) h
          refine ⟨vs', ?_, r2, r3⟩
          rw [Instr.fill, hpl]
          simp only
          rw [if_neg (by simp; omega)]
          exact r1
      · cases h

def parts (A : Operand → AV) (ps : Array (Nat × Operand)) : List (Nat × AV) := ps.toList.map fun p => (p.1, A p.2)

def fieldPlaces (P : Program) (fs : Array Field) (i : Nat) : Option (Nat × Nat) := (fs[i]?).map fun f => (f.offset, P.cellsOf f.type)
def fieldsKnown (P : Program) (fs : Array Field) : Bool := fs.toList.all fun f => (P.underlying f.type).isSome

theorem run_places (fs : List Field) (h : fs.all (fun f => (P.underlying f.type).isSome) = true) (w : World) :
    (fs.mapM fun f => do pure (f.offset, ← sizeOf f.type) : Sem (List (Nat × Nat))).run P w = .ok (fs.map fun f => (f.offset, P.cellsOf f.type)) w := by
  induction fs with
  | nil => rfl
  | cons f r ih =>
    simp only [List.all_cons, Bool.and_eq_true] at h
    obtain ⟨d, hd⟩ := Option.isSome_iff_exists.1 h.1
    rw [List.mapM_cons]
    simp only [Sem.run_bind, run_sizeOf' hd, Result.andThen_ok, Sem.run_pure, ih h.2, List.map_cons]

def abuild (P : Program) (A : Operand → AV) (t : TypeId) (ps : Array (Nat × Operand)) : Option AV :=
  match zeroCs P t, P.underlying t with
  | some z, some (.struct fs) => if fieldsKnown P fs then (afill (fieldPlaces P fs) z (parts A ps)).map .agg else none
  | some z, some (.array _ e) => if (P.underlying e).isSome then (afill (fun i => some (i * P.cellsOf e, P.cellsOf e)) z (parts A ps)).map .agg else none
  | _, _ => none

theorem parts_rep (hA : ∀ x, Rep w H β (A x) (ρ x)) (ps : Array (Nat × Operand)) : (ps.map fun (i, x) => (i, ρ x)).toList.length = (parts A ps).length ∧
    ∀ (i : Nat) (p : Nat × Value) (q : Nat × AV), (ps.map fun (i, x) => (i, ρ x)).toList[i]? = some p → (parts A ps)[i]? = some q → p.1 = q.1 ∧ Rep w H β q.2 p.2 := by
  refine ⟨by simp [parts], fun i p q hp hq => ?_⟩
  simp only [Array.toList_map, List.getElem?_map, parts] at hp hq
  cases h : ps.toList[i]? with
  | none => rw [h] at hp; cases hp
  | some x =>
    rw [h] at hp hq
    simp only [Option.map_some, Option.some.injEq] at hp hq
    subst hp; subst hq
    exact ⟨rfl, hA _⟩

theorem does_build (hI : Inv base w H β) (hA : ∀ x, Rep w H β (A x) (ρ x)) {t : TypeId} {ps : Array (Nat × Operand)} (ho : o.op = .build t ps) {r : AV} (h : abuild P A t ps = some r) : Does P ρ o base w H β r H := by
  unfold abuild at h
  split at h
  · rename_i z fs hz hu
    split at h
    · rename_i hk
      obtain ⟨out, h1, rfl⟩ := Option.map_eq_some_iff.1 h
      obtain ⟨zv, h2, rfl, _⟩ := zero_run hz w
      obtain ⟨p1, p2⟩ := parts_rep hA ps
      obtain ⟨vs', r1, r2, r3⟩ := fill_rep (w := w) (H := H) (β := β) (fieldPlaces P fs) _ (parts A ps) zv.cells _ out (by simp) (fun i d y hd hy => by
        simp only [List.getElem?_map, Array.getElem?_toList, hy, Option.map_some, Option.some.injEq] at hd
        subst hd
        exact rep_zcell y) p1 p2 h1
      have hpl : (fs.mapM fun f => do pure (f.offset, ← sizeOf f.type) : Sem (Array (Nat × Nat))).run P w = .ok (fs.map fun f => (f.offset, P.cellsOf f.type)) w := by
        have := run_places (P := P) fs.toList hk w
        rw [Array.mapM_eq_mapM_toList]
        simp only [Sem.run_map, this, Result.andThen_ok, List.map_toArray]
        congr 1
        apply Array.ext'
        simp
      refine .same hI (v := .agg vs') ?_ (.agg _ _ r2.symm r3)
      have hpf : (fun i => (fs.map fun f => (f.offset, P.cellsOf f.type))[i]?) = fieldPlaces P fs := by
        funext i
        simp [fieldPlaces]
      simp only [execOp, ho, Instr.build, Sem.run_bind, h2, Result.andThen_ok, run_underlying hu, hpl]
      rw [hpf, r1]
      rfl
    · cases h
  · rename_i z n e hz hu
    split at h
    · rename_i hk
      obtain ⟨out, h1, rfl⟩ := Option.map_eq_some_iff.1 h
      obtain ⟨zv, h2, rfl, _⟩ := zero_run hz w
      obtain ⟨p1, p2⟩ := parts_rep hA ps
      obtain ⟨d, hd⟩ := Option.isSome_iff_exists.1 hk
      obtain ⟨vs', r1, r2, r3⟩ := fill_rep (w := w) (H := H) (β := β) (fun i => some (i * P.cellsOf e, P.cellsOf e)) _ (parts A ps) zv.cells _ out (by simp) (fun i d y hd hy => by
        simp only [List.getElem?_map, Array.getElem?_toList, hy, Option.map_some, Option.some.injEq] at hd
        subst hd
        exact rep_zcell y) p1 p2 h1
      refine .same hI (v := .agg vs') ?_ (.agg _ _ r2.symm r3)
      simp only [execOp, ho, Instr.build, Sem.run_bind, h2, Result.andThen_ok, run_underlying hu, run_sizeOf' hd]
      rw [r1]
      rfl
    · cases h
  · cases h

/-- Rows of cells, so many each. -/
def chunk (sz : Nat) : Nat → List AV → List (List AV)
  | 0, _ => []
  | n + 1, cs => cs.take sz :: chunk sz n (cs.drop sz)
theorem chunk_length (sz n : Nat) (cs : List AV) : (chunk sz n cs).length = n := by
  induction n generalizing cs with
  | zero => rfl
  | succ n ih => simp [chunk, ih]
theorem chunk_get (sz : Nat) : ∀ (n : Nat) (cs : List AV) (i : Nat) (g : List AV), (chunk sz n cs)[i]? = some g → i < n ∧ g = (cs.drop (i * sz)).take sz := by
  intro n
  induction n with
  | zero => intro cs i g h; simp [chunk] at h
  | succ n ih =>
    intro cs i g h
    cases i with
    | zero => simp [chunk] at h; exact ⟨by omega, by simp [h]⟩
    | succ i =>
      simp only [chunk, List.getElem?_cons_succ] at h
      obtain ⟨h1, h2⟩ := ih _ _ _ h
      refine ⟨by omega, ?_⟩
      rw [h2, List.drop_drop]
      congr 2
      rw [Nat.add_mul]; omega

/-- A new row that is only read. -/
theorem new_lst (hI : Inv base w H β) (sz n cap : Nat) (gs : List (List AV)) (vs : Array Value) (e : TypeId) (fr : Nat × Nat) (hn : gs.length = n) (hcap : n ≤ cap)
    (hg : ∀ (i : Nat) (g : List AV), gs[i]? = some g → g.length = sz)
    (hr : ∀ (i j : Nat) (g : List AV) (c : AV), gs[i]? = some g → g[j]? = some c → ∃ y, vs[i * sz + j]? = some y ∧ y.oneCell' = true ∧ Rep w H β c y) :
    Inv base (w.alloc (.cells vs e fr)) H β ∧ Stp base w H β (w.alloc (.cells vs e fr)) H β ∧ Rep (w.alloc (.cells vs e fr)) H β (.lst sz gs) (.slice (some ⟨w.heap.size, 0, none⟩) n cap) := by
  obtain ⟨h1, h2⟩ := still hI (Wor.alloc w (.cells vs e fr)) (fun k x hk => alloc_cell w _ k x hk)
  refine ⟨h1, h2, ?_⟩
  subst hn
  refine .lst sz gs _ 0 cap (fun i j => (vs[i * sz + j]?).getD undef) hcap hg (fun i j g c hi hj => ?_) (fun i j g c hi hj => ?_)
  · obtain ⟨y, e1, e3, _⟩ := hr i j g c hi hj
    refine ⟨by rw [alloc_new, Nat.zero_add, e1]; rfl, by rw [e1]; exact e3, ?_⟩
    rintro ⟨i', bx, s, a1, a2, _⟩
    have := (hI.real i' bx _ s a1 a2).2
    omega
  · obtain ⟨y, e1, _, e2⟩ := hr i j g c hi hj
    rw [e1]
    exact e2.stp h2

def abuildSlice (P : Program) (A : Operand → AV) (t : TypeId) (len : Nat) (ps : Array (Nat × Operand)) : Option AV :=
  match P.underlying t with
  | some (.slice e) =>
    if len = 0 then (if ps.size = 0 ∧ (P.underlying e).isSome = true then some .emp else none) else
    if (zeroCs P e).isSome = true ∧ (P.underlying e).isSome = true ∧ len * P.cellsOf e ≤ 16777216 then
      (afill (fun i => some (i * P.cellsOf e, P.cellsOf e)) (List.replicate (len * P.cellsOf e) .dead) (parts A ps)).bind fun cs => if cs.all AV.one = true then some (.lst (P.cellsOf e) (chunk (P.cellsOf e) len cs)) else none
    else none
  | _ => none

theorem afill_length (place : Nat → Option (Nat × Nat)) : ∀ (as : List (Nat × AV)) (cs out : List AV), afill place cs as = some out → out.length = cs.length := by
  intro as
  induction as with
  | nil => intro cs out h; simp [afill] at h; rw [h]
  | cons q as ih =>
    intro cs out h
    obtain ⟨i, c⟩ := q
    simp only [afill] at h
    split at h
    · split at h
      · cases h
      · rw [ih _ _ h, splice_length]
    · cases h

theorem does_buildSlice (hI : Inv base w H β) (hA : ∀ x, Rep w H β (A x) (ρ x)) {t : TypeId} {len : Nat} {ps : Array (Nat × Operand)} (ho : o.op = .buildSlice t len ps) {r : AV} (h : abuildSlice P A t len ps = some r) : ∃ (v : Value) (w' : World) (β' : Pl), (execOp ρ o).run P w = .ok (.value v) w' ∧ Inv base w' H β' ∧ Stp base w H β w' H β' ∧ Rep w' H β' r v ∧ ∀ sz gs, r = .lst sz gs → Rep w' H β' (.lit base sz gs) v := by
  unfold abuildSlice at h
  split at h
  · rename_i e hu
    split at h
    · rename_i hl
      subst hl
      split at h
      · rename_i hps
        obtain ⟨hps, hk⟩ := hps
        injection h with h
        subst h
        obtain ⟨d, hd⟩ := Option.isSome_iff_exists.1 hk
        have hps' : ps = #[] := Array.eq_empty_of_size_eq_zero hps
        subst hps'
        obtain ⟨h1, h2, _⟩ := new_lst hI 1 0 0 [] #[] e (0, 0) rfl (Nat.le_refl _) (by simp) (by simp)
        refine ⟨.slice (some ⟨w.heap.size, 0, none⟩) 0 0, _, β, ?_, h1, h2, .emp _, fun sz gs h => by cases h⟩
        simp only [execOp, ho, Instr.buildSlice, Sem.run_bind, run_underlying hu, Result.andThen_ok, run_sizeOf' hd, Nat.zero_mul]
        simp [Instr.fill, alloc_run, Array.range]
      · cases h
    · rename_i hl
      split at h
      · rename_i hk
        obtain ⟨hz, hk, hle⟩ := hk
        obtain ⟨z, hz⟩ := Option.isSome_iff_exists.1 hz
        obtain ⟨d, hd⟩ := Option.isSome_iff_exists.1 hk
        obtain ⟨out, h1, h⟩ := Option.bind_eq_some_iff.1 h
        have hone : out.all AV.one = true := Classical.byContradiction fun hh => by rw [if_neg hh] at h; cases h
        rw [if_pos hone] at h
        injection h with h
        subst h
        obtain ⟨zv, h2, _, _⟩ := zero_run hz w
        obtain ⟨p1, p2⟩ := parts_rep hA ps
        have hlen := afill_length _ _ _ _ h1
        simp only [List.length_replicate] at hlen
        obtain ⟨zs, hzs⟩ : ∃ zs : Array Value, zs = if len * P.cellsOf e = 0 then #[] else zv.cells := ⟨_, rfl⟩
        obtain ⟨vs', r1, r2, r3⟩ := fill_rep (w := w) (H := H) (β := β) (fun i => some (i * P.cellsOf e, P.cellsOf e)) _ (parts A ps) ((Array.range (len * P.cellsOf e)).map (zs[· % zs.size]!)) (List.replicate (len * P.cellsOf e) .dead) out (by simp) (fun i d y hd hy => by
          simp [List.getElem?_replicate] at hd
          rw [← hd.2]
          exact .dead _) p1 p2 h1
        obtain ⟨g1, g2, g3⟩ := new_lst hI (P.cellsOf e) len len (chunk (P.cellsOf e) len out) vs' e (0, 0) (chunk_length _ _ _) (Nat.le_refl _) (fun i g hg => by
          obtain ⟨hi, rfl⟩ := chunk_get _ _ _ _ _ hg
          simp only [List.length_take, List.length_drop, hlen]
          have : (i + 1) * P.cellsOf e ≤ len * P.cellsOf e := Nat.mul_le_mul_right _ hi
          rw [Nat.add_mul] at this
          omega) (fun i j g c hg hj => by
          obtain ⟨hi, rfl⟩ := chunk_get _ _ _ _ _ hg
          have hjl := (List.getElem?_eq_some_iff.1 hj).1
          simp only [List.length_take] at hjl
          rw [List.getElem?_take_of_lt (by omega), List.getElem?_drop] at hj
          have hjo := (List.getElem?_eq_some_iff.1 hj).1
          have hrr := r3 _ c _ hj (Array.getElem?_eq_getElem (show i * P.cellsOf e + j < vs'.size by omega))
          exact ⟨vs'[i * P.cellsOf e + j]'(by omega), Array.getElem?_eq_getElem _, hrr.one (List.all_eq_true.1 hone _ (List.mem_of_getElem? hj)), hrr⟩)
        refine ⟨_, _, β, ?_, g1, g2, g3, fun sz gs h => ?_⟩
        rotate_left
        · injection h with h1 h2
          subst h1; subst h2
          refine .lit _ _ _ _ g3 ⟨w.heap.size, 0, _, _, rfl, hI.bse.le, by simp, fun y => ?_⟩
          rintro ⟨i', bx, s, a1, a2, _⟩
          have := (hI.real i' bx _ s a1 a2).2
          omega
        have hle' : ¬ (len * P.cellsOf e > 2 ^ 24) := by omega
        simp only [execOp, ho, Instr.buildSlice, Sem.run_bind, run_underlying hu, Result.andThen_ok, run_sizeOf' hd, if_neg hle', Sem.run_ite]
        by_cases h0 : len * P.cellsOf e = 0
        · rw [if_pos h0] at hzs
          subst hzs
          simp only [if_pos h0, Sem.run_bind, Sem.run_pure, Result.andThen_ok]
          rw [r1]
          simp [alloc_run]
        · rw [if_neg h0] at hzs
          subst hzs
          simp only [if_neg h0, Sem.run_bind, Sem.run_pure, Result.andThen_ok, h2]
          rw [r1]
          simp [alloc_run]
      · cases h
  · cases h

/-! ### Fields and indexes -/
/-- Is a box as it is said to be? -/
def live (H : List Box) (b g : Nat) : Bool := match H[b]? with | some bx => decide (bx.gen = g) | none => false

theorem live_ptr {b g off : Nat} {v : Value} (hl : live H b g = true) (h : Rep w H β (.ptr b g off) v) : ∃ bx k s, H[b]? = some bx ∧ bx.gen = g ∧ β b = some (k, s) ∧ v = .pointer (some ⟨k, s + off, none⟩) := by
  cases h with
  | ptr _ _ _ _ bx hb hg hx hp =>
    simp only [live, hb, decide_eq_true_eq] at hl
    obtain ⟨k, s, h1, h2⟩ := hp hl
    exact ⟨bx, k, s, hb, hl, h1, h2⟩
theorem live_sl {b g off n sz : Nat} {full : Bool} {v : Value} (hl : live H b g = true) (h : Rep w H β (.sl b g off n sz full) v) : ∃ bx, H[b]? = some bx ∧ bx.gen = g ∧ SlAt w (β b) off n sz full v := by
  cases h with
  | sl _ _ _ _ _ _ _ bx hb hg hx hp =>
    simp only [live, hb, decide_eq_true_eq] at hl
    exact ⟨bx, hb, hl, hp hl⟩
theorem rep_ptr {b g off k s : Nat} {bx : Box} (hb : H[b]? = some bx) (hg : bx.gen = g) (hl : β b = some (k, s)) : Rep w H β (.ptr b g off) (.pointer (some ⟨k, s + off, none⟩)) :=
  .ptr _ _ _ _ bx hb (by omega) ⟨_, rfl⟩ fun _ => ⟨k, s, hl, rfl⟩
theorem rep_sl {b g off n sz : Nat} {full : Bool} {v : Value} {bx : Box} (hb : H[b]? = some bx) (hg : bx.gen = g) (h : SlAt w (β b) off n sz full v) : Rep w H β (.sl b g off n sz full) v :=
  .sl _ _ _ _ _ _ _ bx hb (by omega) (by obtain ⟨a, cap, h, _⟩ := h; exact ⟨_, _, _, h⟩) fun _ => h

def fieldOf (P : Program) (s : TypeId) (f : Nat) : Option Field :=
  match P.underlying s with
  | some (.struct fs) => fs[f]?
  | _ => none
def afieldAddr (P : Program) (s : TypeId) (f : Nat) (H : List Box) (x : AV) : Option AV :=
  match fieldOf P s f with
  | none => none
  | some d =>
    if P.cellsOf d.type ≠ 0 ∧ (P.underlying d.type).isSome = true then
      match x with
      | .ptr b g o => if live H b g then some (.ptr b g (o + d.offset)) else none
      | .elt g o => some (.elt g (o + d.offset))
      | _ => none
    else none

theorem run_fieldAt {s : TypeId} {f : Nat} {d : Field} (hf : fieldOf P s f = some d) (h0 : P.cellsOf d.type ≠ 0) (hk : (P.underlying d.type).isSome = true) (k x : Nat) :
    (Instr.fieldAt s (.pointer (some ⟨k, x, none⟩)) f).run P w = .ok (.pointer (some ⟨k, x + d.offset, none⟩)) w := by
  obtain ⟨dd, hd⟩ := Option.isSome_iff_exists.1 hk
  unfold fieldOf at hf
  split at hf
  · rename_i fs hu
    simp [Instr.fieldAt, run_underlying hu, hf, Instr.sureAddr, fieldPlace, run_sizeOf' hd, h0, add_plain]
  · cases hf

theorem does_fieldAddr (hI : Inv base w H β) (hA : ∀ x, Rep w H β (A x) (ρ x)) {s : TypeId} {x : Operand} {f : Nat} (ho : o.op = .fieldAddr s x f) {r : AV} (h : afieldAddr P s f H (A x) = some r) : Does P ρ o base w H β r H := by
  have hx := hA x
  unfold afieldAddr at h
  split at h
  · cases h
  · rename_i d hf
    split at h
    · rename_i hc
      split at h
      · rename_i b g off hAx
        rw [hAx] at hx
        split at h
        · rename_i hl
          injection h with h
          subst h
          obtain ⟨bx, k, s', h1, h2, h3, h4⟩ := live_ptr hl hx
          refine .same hI ?_ (rep_ptr (k := k) (s := s') h1 h2 h3)
          simp only [execOp, ho, h4, Sem.run_bind, run_fieldAt hf hc.1 hc.2, Result.andThen_ok, Nat.add_assoc]; rfl
        · cases h
      · rename_i g off hAx
        rw [hAx] at hx
        injection h with h
        subst h
        generalize hv : ρ x = v at hx
        cases hx with
        | elt _ _ k s' y hc' hr =>
          refine .same hI ?_ (.elt g _ k s' y hc' hr)
          simp only [execOp, ho, hv, Sem.run_bind, run_fieldAt hf hc.1 hc.2, Result.andThen_ok, Nat.add_assoc]; rfl
      · cases h
    · cases h

/-- A part of an aggregate. -/
theorem run_part {t : TypeId} {cs : List AV} {vs : Array Value} {off : Nat} {r : AV} (hr : aload P t cs off = some r) (hlen : cs.length = vs.size)
    (h : ∀ (i : Nat) (c : AV) (x : Value), cs[i]? = some c → vs[i]? = some x → Rep w H β c x) : ∃ v, (part t vs off).run P w = .ok v w ∧ Rep w H β r v := by
  unfold aload at hr
  split at hr
  · cases hr
  · rename_i d hd
    split at hr
    · rename_i hag
      split at hr
      · rename_i hl
        injection hr with hr
        subst hr
        refine ⟨.agg (vs.extract off (off + P.cellsOf t)), by simp [part, run_isAgg' hd, hag, run_sizeOf' hd], .agg _ _ (by simp; omega) fun i c x h1 h2 => ?_⟩
        have hi : i < P.cellsOf t := by
          have := (List.getElem?_eq_some_iff.1 h1).1
          simp at this
          omega
        rw [List.getElem?_take_of_lt hi, List.getElem?_drop] at h1
        rw [Array.getElem?_extract_of_lt (by omega)] at h2
        exact h _ _ _ h1 (by rw [Array.getElem?_eq_getElem (by omega)]; exact h2)
      · cases hr
    · rename_i hag
      have hi := (List.getElem?_eq_some_iff.1 hr).1
      have hv : vs[off]? = some (vs[off]'(by omega)) := Array.getElem?_eq_getElem _
      refine ⟨_, ?_, h off r _ hr hv⟩
      simp only [Bool.not_eq_true] at hag
      simp [part, run_isAgg' hd, hag, hv]

def afield (P : Program) (s : TypeId) (f : Nat) (x : AV) : Option AV :=
  match fieldOf P s f, x with
  | some d, .agg cs => aload P d.type cs d.offset
  | _, _ => none
theorem does_field (hI : Inv base w H β) (hA : ∀ x, Rep w H β (A x) (ρ x)) {s : TypeId} {x : Operand} {f : Nat} (ho : o.op = .field s x f) {r : AV} (h : afield P s f (A x) = some r) : Does P ρ o base w H β r H := by
  have hx := hA x
  unfold afield at h
  split at h
  · rename_i d cs hf hAx
    rw [hAx] at hx
    generalize hv : ρ x = v at hx
    cases hx with
    | agg _ vs hl hr =>
      obtain ⟨v, h1, h2⟩ := run_part h hl hr
      refine .same hI ?_ h2
      unfold fieldOf at hf
      split at hf
      · rename_i fs hu
        simp [execOp, ho, hv, Instr.field, run_underlying hu, hf, asAgg, h1]
      · cases hf
  · cases h

def elemTy (P : Program) (t : TypeId) : Option TypeId := match P.underlying t with | some (.slice e) => if (P.underlying e).isSome then some e else none | _ => none
def arrTy (P : Program) (t : TypeId) : Option (Nat × TypeId) := match P.underlying t with | some (.array n e) => if (P.underlying e).isSome then some (n, e) else none | _ => none
theorem elemTy_spec {t e : TypeId} (h : elemTy P t = some e) : P.underlying t = some (.slice e) ∧ ∃ d, P.underlying e = some d := by
  unfold elemTy at h
  split at h
  · rename_i e' hu
    split at h
    · rename_i hk
      injection h with h
      subst h
      exact ⟨hu, Option.isSome_iff_exists.1 hk⟩
    · cases h
  · cases h
theorem arrTy_spec {t e : TypeId} {n : Nat} (h : arrTy P t = some (n, e)) : P.underlying t = some (.array n e) ∧ ∃ d, P.underlying e = some d := by
  unfold arrTy at h
  split at h
  · rename_i n' e' hu
    split at h
    · rename_i hk
      injection h with h
      injection h with h1 h2
      subst h1; subst h2
      exact ⟨hu, Option.isSome_iff_exists.1 hk⟩
    · cases h
  · cases h

def aindexAddr (P : Program) (t : TypeId) (H : List Box) (x ix : AV) : Option AV :=
  match ix with
  | .v (.int _ i) =>
    match x with
    | .lst sz gs => match elemTy P t with
      | some e => if sz = P.cellsOf e ∧ 0 ≤ i then (gs[i.toNat]?).map (.elt · 0) else none
      | none => none
    | .sl b g off n sz _ => match elemTy P t with
      | some e => if sz = P.cellsOf e ∧ live H b g = true ∧ 0 ≤ i ∧ i.toNat < n then some (.ptr b g (off + i.toNat * sz)) else none
      | none => none
    | .ptr b g off => match arrTy P t with
      | some (n, e) => if live H b g = true ∧ 0 ≤ i ∧ i.toNat < n then some (.ptr b g (off + i.toNat * P.cellsOf e)) else none
      | none => none
    | .elt g off => match arrTy P t with
      | some (n, e) => if 0 ≤ i ∧ i.toNat < n then some (.elt g (off + i.toNat * P.cellsOf e)) else none
      | none => none
    | _ => none
  | _ => none

theorem run_indexAt_sl {t e : TypeId} (he : elemTy P t = some e) {k s n cap : Nat} {ik : IntKind} {i : Int} (h0 : 0 ≤ i) (h1 : i.toNat < n) :
    (Instr.indexAt t (.slice (some ⟨k, s, none⟩) n cap) (.int ik i)).run P w = .ok (.pointer (some ⟨k, s + i.toNat * P.cellsOf e, none⟩)) w := by
  obtain ⟨hu, d, hd⟩ := elemTy_spec he
  have : 0 ≤ i ∧ i < n := ⟨h0, by omega⟩
  simp [Instr.indexAt, asIntOf, run_underlying hu, this, run_sizeOf' hd, add_plain]
theorem run_indexAt_arr {t e : TypeId} {n : Nat} (he : arrTy P t = some (n, e)) {k s : Nat} {ik : IntKind} {i : Int} (h0 : 0 ≤ i) (h1 : i.toNat < n) :
    (Instr.indexAt t (.pointer (some ⟨k, s, none⟩)) (.int ik i)).run P w = .ok (.pointer (some ⟨k, s + i.toNat * P.cellsOf e, none⟩)) w := by
  obtain ⟨hu, d, hd⟩ := arrTy_spec he
  have : 0 ≤ i ∧ i < n := ⟨h0, by omega⟩
  simp [Instr.indexAt, asIntOf, run_underlying hu, Instr.sureAddr, this, run_sizeOf' hd, add_plain]

theorem does_indexAddr (hI : Inv base w H β) (hA : ∀ x, Rep w H β (A x) (ρ x)) {t : TypeId} {x ix : Operand} (ho : o.op = .indexAddr t x ix) {r : AV} (h : aindexAddr P t H (A x) (A ix) = some r) : Does P ρ o base w H β r H := by
  have hx := hA x
  have hix := hA ix
  unfold aindexAddr at h
  split at h
  · rename_i ik i hAi
    rw [hAi] at hix
    generalize hvi : ρ ix = vi at hix
    cases hix
    split at h
    · rename_i sz gs hAx
      rw [hAx] at hx
      split at h
      · rename_i e he
        split at h
        · rename_i hc
          obtain ⟨hsz, h0⟩ := hc
          obtain ⟨g, hg, rfl⟩ := Option.map_eq_some_iff.1 h
          have hlt := (List.getElem?_eq_some_iff.1 hg).1
          generalize hv : ρ x = v at hx
          cases hx with
          | lst0 => simp at hlt
          | lst _ _ k s cap y hn hgl hcc hr =>
            subst hsz
            refine .same hI (v := .pointer (some ⟨k, s + i.toNat * P.cellsOf e + 0, none⟩)) ?_ (.elt g 0 k (s + i.toNat * P.cellsOf e) (y i.toNat) (fun j c hj => ?_) (fun j c hj => hr i.toNat j g c hg hj))
            · simp only [execOp, ho, hv, hvi, Sem.run_bind, run_indexAt_sl he h0 hlt, Result.andThen_ok]; rfl
            · exact hcc i.toNat j g c hg hj
        · cases h
      · cases h
    · rename_i b g off n sz full hAx
      rw [hAx] at hx
      split at h
      · rename_i e he
        split at h
        · rename_i hc
          obtain ⟨hsz, hl, h0, h1⟩ := hc
          injection h with h
          subst h
          obtain ⟨bx, e1, e2, a, cap, e3, e4, e5, e6⟩ := live_sl hl hx
          obtain ⟨k, s, c, et, fr, f1, f2, f3, f4⟩ := e6 (by omega)
          subst f2; subst hsz
          refine .same hI ?_ (rep_ptr (k := k) (s := s) e1 e2 f1)
          simp only [execOp, ho, e3, hvi, Sem.run_bind, run_indexAt_sl he h0 h1, Result.andThen_ok, Nat.add_assoc]; rfl
        · cases h
      · cases h
    · rename_i b g off hAx
      rw [hAx] at hx
      split at h
      · rename_i n e he
        split at h
        · rename_i hc
          obtain ⟨hl, h0, h1⟩ := hc
          injection h with h
          subst h
          obtain ⟨bx, k, s, e1, e2, e3, e4⟩ := live_ptr hl hx
          refine .same hI ?_ (rep_ptr (k := k) (s := s) e1 e2 e3)
          simp only [execOp, ho, e4, hvi, Sem.run_bind, run_indexAt_arr he h0 h1, Result.andThen_ok, Nat.add_assoc]; rfl
        · cases h
      · cases h
    · rename_i g off hAx
      rw [hAx] at hx
      split at h
      · rename_i n e he
        split at h
        · rename_i hc
          obtain ⟨h0, h1⟩ := hc
          injection h with h
          subst h
          generalize hv : ρ x = v at hx
          cases hx with
          | elt _ _ k s y hcc hr =>
            refine .same hI ?_ (.elt g _ k s y hcc hr)
            simp only [execOp, ho, hv, hvi, Sem.run_bind, run_indexAt_arr he h0 h1, Result.andThen_ok, Nat.add_assoc]; rfl
        · cases h
      · cases h
    · cases h
  · cases h

def aindex (P : Program) (t : TypeId) (x ix : AV) : Option AV :=
  match ix with
  | .v (.int _ i) =>
    match x with
    | .v (.string s) => match P.underlying t with
      | some .string => if 0 ≤ i then (s.data.toList[i.toNat]?).map fun b => .v (.int .u8 b.toNat) else none
      | _ => none
    | .agg cs => match arrTy P t with
      | some (n, e) => if 0 ≤ i ∧ i.toNat < n then aload P e cs (i.toNat * P.cellsOf e) else none
      | none => none
    | _ => none
  | _ => none
theorem does_index (hI : Inv base w H β) (hA : ∀ x, Rep w H β (A x) (ρ x)) {t : TypeId} {x ix : Operand} (ho : o.op = .index t x ix) {r : AV} (h : aindex P t (A x) (A ix) = some r) : Does P ρ o base w H β r H := by
  have hx := hA x
  have hix := hA ix
  unfold aindex at h
  split at h
  · rename_i ik i hAi
    rw [hAi] at hix
    generalize hvi : ρ ix = vi at hix
    cases hix
    split at h
    · rename_i s hAx
      rw [hAx] at hx
      split at h
      · rename_i hu
        split at h
        · rename_i h0
          obtain ⟨b, hb, rfl⟩ := Option.map_eq_some_iff.1 h
          generalize hv : ρ x = v at hx
          cases hx
          refine .same hI (v := .int .u8 b.toNat) ?_ (.v _)
          have hs : s[i.toNat]? = some b := by
            rw [Array.getElem?_toList] at hb
            obtain ⟨h1, h2⟩ := Array.getElem?_eq_some_iff.1 hb
            rw [getElem?_pos s i.toNat h1]
            exact congrArg some h2
          simp [execOp, ho, hv, hvi, Instr.index, asIntOf, run_underlying hu, h0, hs]
        · cases h
      · cases h
    · rename_i cs hAx
      rw [hAx] at hx
      split at h
      · rename_i n e he
        split at h
        · rename_i hc
          obtain ⟨h0, h1⟩ := hc
          obtain ⟨hu, d, hd⟩ := arrTy_spec he
          generalize hv : ρ x = v at hx
          cases hx with
          | agg _ vs hl hr =>
            obtain ⟨v, g1, g2⟩ := run_part h hl hr
            refine .same hI ?_ g2
            have : 0 ≤ i ∧ i < n := ⟨h0, by omega⟩
            simp [execOp, ho, hv, hvi, Instr.index, asIntOf, run_underlying hu, this, run_sizeOf' hd, g1]
        · cases h
      · cases h
    · cases h
  · cases h

def aextract (x : AV) (i : Nat) : Option AV := match x with | .tup vs => vs[i]? | _ => none
theorem does_extract (hI : Inv base w H β) (hA : ∀ x, Rep w H β (A x) (ρ x)) {x : Operand} {i : Nat} (ho : o.op = .extract x i) {r : AV} (h : aextract (A x) i = some r) : Does P ρ o base w H β r H := by
  have hx := hA x
  unfold aextract at h
  split at h
  · rename_i vs hAx
    rw [hAx] at hx
    generalize hv : ρ x = v at hx
    cases hx with
    | tup _ xs hl hr =>
      have hi := (List.getElem?_eq_some_iff.1 h).1
      have hxi : xs[i]? = some (xs[i]'(by omega)) := Array.getElem?_eq_getElem _
      exact .same hI (by simp [execOp, ho, hv, Instr.extract, hxi]) (hr i r _ h hxi)
  · cases h

end ops
end Go.Proofs.YtjkdahpoalnjjaaDoor.VL

/- The value logic, part 4: slices, arithmetic, conversions, the built-in functions. -/
set_option linter.unusedVariables false
set_option linter.unusedSimpArgs false
namespace Go.Proofs.YtjkdahpoalnjjaaDoor.VL
open Go Go.RowKit

section ops
variable {P : Program} {ρ : Operand → Value} {A : Operand → AV} {o : Oper} {base : Nat} {w : World} {H : List Box} {β : Pl}

/-! ### Slices -/
def abnd (x : Option AV) (d top : Nat) : Option Nat :=
  match x with
  | none => some d
  | some (.v (.int _ i)) => if 0 ≤ i ∧ i ≤ top then some i.toNat else none
  | _ => none
theorem run_bound {x : Operand} {ik : IntKind} {i : Int} {top cap : Nat} (code : BoundsCode) (hx : ρ x = .int ik i) (h0 : 0 ≤ i) (h1 : i ≤ top) (hc : top ≤ cap) :
    (Instr.sliceBound (ρ x) cap code).run P w = .ok i.toNat w := by
  have : 0 ≤ i ∧ i ≤ cap := ⟨h0, by omega⟩
  simp [Instr.sliceBound, hx, asIntOf, this]
theorem abnd_int (hA : ∀ x, Rep w H β (A x) (ρ x)) {x : Option Operand} {d top n : Nat} (h : abnd (x.map A) d top = some n) :
    (x = none ∧ n = d) ∨ ∃ y ik i, x = some y ∧ ρ y = .int ik i ∧ 0 ≤ i ∧ i ≤ top ∧ n = i.toNat := by
  cases x with
  | none => simp [abnd] at h; exact .inl ⟨rfl, h.symm⟩
  | some y =>
    simp only [abnd, Option.map_some] at h
    split at h
    · rename_i heq; cases heq
    · rename_i ik i heq
      injection heq with heq
      split at h
      · rename_i hc
        injection h with h
        have := hA y
        rw [heq] at this
        generalize hv : ρ y = v at this
        cases this
        exact .inr ⟨y, ik, i, rfl, hv, hc.1, hc.2, h.symm⟩
      · cases h
    · cases h

/-- A slice expression's bounds: h within top, l within h; top within the capacity. -/
theorem run_bounds (hA : ∀ x, Rep w H β (A x) (ρ x)) {lo hi : Option Operand} {len cap l h : Nat} (isS : Bool) (hc : len ≤ cap) (h1 : abnd (hi.map A) len len = some h) (h2 : abnd (lo.map A) 0 h = some l) :
    (Instr.sliceBounds isS len cap (lo.map ρ) (hi.map ρ) none).run P w = .ok (l, h, cap) w ∧ l ≤ h ∧ h ≤ len := by
  have hh : h ≤ len ∧ ∀ code, (match hi.map ρ with | some v => Instr.sliceBound v cap code | none => pure len : Sem Nat).run P w = .ok h w := by
    rcases abnd_int hA h1 with ⟨rfl, rfl⟩ | ⟨y, ik, i, rfl, e1, e2, e3, rfl⟩
    · exact ⟨Nat.le_refl _, fun _ => rfl⟩
    · exact ⟨by omega, fun code => run_bound code e1 e2 e3 hc⟩
  have hl : l ≤ h ∧ ∀ code, (match lo.map ρ with | some v => Instr.sliceBound v h code | none => pure 0 : Sem Nat).run P w = .ok l w := by
    rcases abnd_int hA h2 with ⟨rfl, rfl⟩ | ⟨y, ik, i, rfl, e1, e2, e3, rfl⟩
    · exact ⟨Nat.zero_le _, fun _ => rfl⟩
    · exact ⟨by omega, fun code => run_bound code e1 e2 e3 (Nat.le_refl _)⟩
  refine ⟨?_, hl.1, hh.1⟩
  unfold Instr.sliceBounds
  cases hi with
  | none =>
    have h3 := hh.2 .sliceB
    simp only [Option.map_none] at h3 ⊢
    have h4 := hl.2 .sliceB
    cases lo with
    | none => simp at h3 h4 ⊢; exact ⟨h4, h3⟩
    | some y => simp at h3 h4 ⊢; subst h3; simp [h4]
  | some y =>
    have h3 := hh.2 (if isS then .sliceAcap else .sliceAlen)
    simp only [Option.map_some] at h3 ⊢
    have h4 := hl.2 .sliceB
    cases lo with
    | none => simp at h3 h4 ⊢; simp [h3, h4]
    | some z => simp at h3 h4 ⊢; simp [h3, h4]

theorem run_bounds3 (hA : ∀ x, Rep w H β (A x) (ρ x)) {lo : Option Operand} {hi mx : Operand} {len cap l h m : Nat} (isS : Bool) (hc : len ≤ cap) (h0 : abnd (some (A mx)) 0 len = some m) (h1 : abnd (some (A hi)) 0 m = some h) (h2 : abnd (lo.map A) 0 h = some l) :
    (Instr.sliceBounds isS len cap (lo.map ρ) (some (ρ hi)) (some (ρ mx))).run P w = .ok (l, h, m) w ∧ l ≤ h ∧ h ≤ m ∧ m ≤ len := by
  rcases abnd_int (x := some mx) hA h0 with ⟨hh, _⟩ | ⟨ym, ikm, im, em, e1, e2, e3, rfl⟩
  · cases hh
  injection em with em
  subst em
  rcases abnd_int (x := some hi) hA h1 with ⟨hh, _⟩ | ⟨yh, ikh, ih, eh, f1, f2, f3, rfl⟩
  · cases hh
  injection eh with eh
  subst eh
  have b1 := fun code => run_bound (P := P) (w := w) code e1 e2 e3 hc
  have b2 := fun code => run_bound (P := P) (w := w) code f1 f2 f3 (Nat.le_refl _)
  rcases abnd_int hA h2 with ⟨rfl, rfl⟩ | ⟨y, ik, i, rfl, g1, g2, g3, rfl⟩
  · refine ⟨?_, Nat.zero_le _, by omega, by omega⟩
    unfold Instr.sliceBounds
    simp only [Option.map_none, Sem.run_bind, b1, Result.andThen_ok, b2, Sem.run_pure]
  · refine ⟨?_, by omega, by omega, by omega⟩
    have b3 := fun code => run_bound (P := P) (w := w) code g1 g2 g3 (Nat.le_refl _)
    unfold Instr.sliceBounds
    simp only [Option.map_some, Sem.run_bind, b1, Result.andThen_ok, b2, b3, Sem.run_pure]
def aslice3 (P : Program) (t : TypeId) (H : List Box) (x : AV) (lo : Option AV) (hi mx : AV) : Option AV :=
  match x with
  | .emp => match elemTy P t with
    | some e => (abnd (some mx) 0 0).bind fun m => (abnd (some hi) 0 m).bind fun h => (abnd lo 0 h).map fun l => .emp
    | none => none
  | .lst sz gs => match elemTy P t with
    | some e => (abnd (some mx) 0 gs.length).bind fun m => if m = 0 then (abnd (some hi) 0 m).bind fun h => (abnd lo 0 h).map fun l => .emp else none
    | none => none
  | .sl b g off n sz full => match elemTy P t with
    | some e => if sz = P.cellsOf e ∧ live H b g = true then (abnd (some mx) 0 n).bind fun m => (abnd (some hi) 0 m).bind fun h => (abnd lo 0 h).map fun l => .sl b g (off + l * sz) (h - l) sz (decide (h = m)) else none
    | none => none
  | _ => none
def aslice (P : Program) (t : TypeId) (H : List Box) (x : AV) (lo hi mx : Option AV) : Option AV :=
  match mx with
  | none =>
    match x with
    | .v (.string s) => match P.underlying t with
      | some .string => (abnd hi s.size s.size).bind fun h => (abnd lo 0 h).map fun l => .v (.string ⟨((s.data.toList.take h).drop l).toArray⟩)
      | _ => none
    | .emp => match elemTy P t with
      | some e => (abnd hi 0 0).bind fun h => (abnd lo 0 h).map fun l => .emp
      | none => none
    | .lst sz gs => match elemTy P t with
      | some e => if sz = P.cellsOf e then (abnd hi gs.length gs.length).bind fun h => (abnd lo 0 h).map fun l => .lst sz ((gs.take h).drop l) else none
      | none => none
    | .sl b g off n sz full => match elemTy P t with
      | some e => if sz = P.cellsOf e ∧ live H b g = true then (abnd hi n n).bind fun h => (abnd lo 0 h).map fun l => .sl b g (off + l * sz) (h - l) sz (full && decide (h = n)) else none
      | none => none
    | .ptr b g off => match arrTy P t with
      | some (n, e) => if live H b g = true ∧ P.cellsOf e ≠ 0 ∧ ((H[b]?).map fun bx => decide (off + n * P.cellsOf e ≤ bx.cells.length)) = some true then
          (abnd hi n n).bind fun h => (abnd lo 0 h).map fun l => .sl b g (off + l * P.cellsOf e) (h - l) (P.cellsOf e) (decide (h = n)) else none
      | none => none
    | _ => none
  | some m => match hi with
    | some h => aslice3 P t H x lo h m
    | none => none

theorem rep_string_slice (s : ByteArray) (l h : Nat) : (⟨((s.data.toList.take h).drop l).toArray⟩ : ByteArray) = s.extract l h := by
  apply ByteArray.ext
  rw [ByteArray.data_extract]
  apply Array.ext'
  simp [List.drop_take]

/-- A part of a slice that is only read. -/
theorem rep_lst_part {sz : Nat} {gs : List (List AV)} {a : Option Addr} {n cap l h : Nat} (hr : Rep w H β (.lst sz gs) (.slice a n cap)) (hl : l ≤ h) (hh : h ≤ n) (cap' : Nat) (hc : cap' = cap - l) :
    Rep w H β (.lst sz ((gs.take h).drop l)) (.slice (if cap = l then a else a.map (·.add (l * sz))) (h - l) cap') := by
  subst hc
  by_cases he : h - l = 0
  · have : (gs.take h).drop l = [] := by
      apply List.eq_nil_of_length_eq_zero
      simp; omega
    rw [this, he]
    exact .lst0 _ _ _
  · cases hr with
    | lst0 => omega
    | lst _ _ k s cap y hn hg hcc hrr =>
      rw [if_neg (by omega)]
      have hlen : ((gs.take h).drop l).length = h - l := by simp; omega
      rw [← hlen]
      simp only [Option.map_some, add_plain]
      have hget : ∀ (i : Nat) (g : List AV), ((gs.take h).drop l)[i]? = some g → gs[l + i]? = some g := fun i g hi => by
        rw [List.getElem?_drop] at hi
        have := (List.getElem?_eq_some_iff.1 hi).1
        rw [List.getElem?_take_of_lt (by simp at this; omega)] at hi
        exact hi
      refine .lst sz _ k (s + l * sz) (cap - l) (fun i j => y (l + i) j) (by rw [hlen]; omega) (fun i g hi => hg _ g (hget i g hi)) (fun i j g c hi hj => ?_) (fun i j g c hi hj => hrr (l + i) j g c (hget i g hi) hj)
      have := hcc (l + i) j g c (hget i g hi) hj
      have e : s + l * sz + i * sz + j = s + (l + i) * sz + j := by rw [Nat.add_mul]; omega
      rw [e]
      exact this

theorem does_slice (hI : Inv base w H β) (hA : ∀ x, Rep w H β (A x) (ρ x)) {t : TypeId} {x : Operand} {lo hi mx : Option Operand} (ho : o.op = .slice t x lo hi mx) {r : AV} (h : aslice P t H (A x) (lo.map A) (hi.map A) (mx.map A) = some r) : Does P ρ o base w H β r H := by
  have hx := hA x
  unfold aslice at h
  split at h
  · rename_i hmx
    have hmx' : mx = none := by cases mx <;> simp_all
    subst hmx'
    split at h
    · rename_i s hAx
      rw [hAx] at hx
      split at h
      · rename_i hu
        obtain ⟨hh, h1, h2⟩ := Option.bind_eq_some_iff.1 h
        obtain ⟨ll, h3, rfl⟩ := Option.map_eq_some_iff.1 h2
        generalize hv : ρ x = v at hx
        cases hx
        obtain ⟨b1, b2, b3⟩ := run_bounds (P := P) hA false (Nat.le_refl s.size) h1 h3
        rw [rep_string_slice]
        refine .same hI (v := .string (s.extract ll hh)) ?_ (.v _)
        simp only [execOp, ho, hv, Instr.sliceAt, Sem.run_bind, run_underlying hu, Result.andThen_ok, Instr.slice, Option.map_none, Option.isSome_none, Bool.false_eq_true, if_false, b1, Sem.run_pure]
      · cases h
    · rename_i hAx
      rw [hAx] at hx
      split at h
      · rename_i e he
        obtain ⟨hu, d, hd⟩ := elemTy_spec he
        obtain ⟨hh, h1, h2⟩ := Option.bind_eq_some_iff.1 h
        obtain ⟨ll, h3, rfl⟩ := Option.map_eq_some_iff.1 h2
        generalize hv : ρ x = v at hx
        cases hx with
        | emp a =>
          obtain ⟨b1, b2, b3⟩ := run_bounds (P := P) hA true (Nat.le_refl 0) h1 h3
          obtain rfl : hh = 0 := by omega
          obtain rfl : ll = 0 := by omega
          refine .same hI (v := .slice a 0 0) ?_ (.emp a)
          simp only [execOp, ho, hv, Instr.sliceAt, Sem.run_bind, run_underlying hu, Result.andThen_ok, Instr.slice, Option.map_none, b1, run_sizeOf' hd, Sem.run_pure, if_pos]
      · cases h
    · rename_i sz gs hAx
      rw [hAx] at hx
      split at h
      · rename_i e he
        obtain ⟨hu, d, hd⟩ := elemTy_spec he
        split at h
        · rename_i hsz
          obtain ⟨hh, h1, h2⟩ := Option.bind_eq_some_iff.1 h
          obtain ⟨ll, h3, rfl⟩ := Option.map_eq_some_iff.1 h2
          obtain ⟨a, cap, hv, hcap⟩ : ∃ a cap, ρ x = .slice a gs.length cap ∧ gs.length ≤ cap := by
            generalize hv : ρ x = v at hx
            cases hx with
            | lst0 _ a cap => exact ⟨a, cap, by simp, Nat.zero_le _⟩
            | lst _ _ k s cap y hn hg hc hr => exact ⟨_, cap, rfl, hn⟩
          rw [hv] at hx
          obtain ⟨b1, b2, b3⟩ := run_bounds (P := P) hA true hcap h1 h3
          refine .same hI ?_ (rep_lst_part hx b2 b3 (cap - ll) rfl)
          simp only [execOp, ho, hv, Instr.sliceAt, Sem.run_bind, run_underlying hu, Result.andThen_ok, Instr.slice, Option.map_none, b1, run_sizeOf' hd, Sem.run_pure, hsz]
        · cases h
      · cases h
    · rename_i b g off n sz full hAx
      rw [hAx] at hx
      split at h
      · rename_i e he
        obtain ⟨hu, d, hd⟩ := elemTy_spec he
        split at h
        · rename_i hc
          obtain ⟨hsz, hl⟩ := hc
          obtain ⟨hh, h1, h2⟩ := Option.bind_eq_some_iff.1 h
          obtain ⟨ll, h3, rfl⟩ := Option.map_eq_some_iff.1 h2
          obtain ⟨bx, e1, e2, a, cap, hv, e4, e5, e6⟩ := live_sl hl hx
          obtain ⟨b1, b2, b3⟩ := run_bounds (P := P) hA true e4 h1 h3
          refine .same hI (v := .slice (if cap = ll then a else a.map (·.add (ll * sz))) (hh - ll) (cap - ll)) ?_ (rep_sl e1 e2 ⟨_, _, rfl, by omega, fun hf => ?_, fun h0 => ?_⟩)
          · simp only [execOp, ho, hv, Instr.sliceAt, Sem.run_bind, run_underlying hu, Result.andThen_ok, Instr.slice, Option.map_none, b1, run_sizeOf' hd, Sem.run_pure, hsz]
          · simp only [Bool.and_eq_true, decide_eq_true_eq] at hf
            have := e5 hf.1
            omega
          · obtain ⟨k, s, c, et, fr, f1, f2, f3, f4⟩ := e6 (by omega)
            rw [if_neg (by omega)]
            refine ⟨k, s, c, et, fr, f1, by rw [f2]; simp only [Option.map_some, add_plain, Nat.add_assoc], f3, ?_⟩
            have : cap * sz = ll * sz + (cap - ll) * sz := by rw [← Nat.add_mul]; congr 1; omega
            omega
        · cases h
      · cases h
    · rename_i b g off hAx
      rw [hAx] at hx
      split at h
      · rename_i n e he
        obtain ⟨hu, d, hd⟩ := arrTy_spec he
        split at h
        · rename_i hc
          obtain ⟨hl, hz, hfit⟩ := hc
          obtain ⟨hh, h1, h2⟩ := Option.bind_eq_some_iff.1 h
          obtain ⟨ll, h3, rfl⟩ := Option.map_eq_some_iff.1 h2
          obtain ⟨bx, k, s, e1, e2, e3, hv⟩ := live_ptr hl hx
          obtain ⟨b1, b2, b3⟩ := run_bounds (P := P) hA false (Nat.le_refl n) h1 h3
          rw [e1] at hfit
          simp only [Option.map_some, Option.some.injEq, decide_eq_true_eq] at hfit
          refine .same hI (v := .slice (some (if n = ll then ⟨k, s + off, none⟩ else ⟨k, s + off + ll * P.cellsOf e, none⟩)) (hh - ll) (n - ll)) ?_ (rep_sl e1 e2 ⟨_, _, rfl, by omega, fun hf => ?_, fun h0 => ?_⟩)
          · simp only [execOp, ho, hv, Instr.sliceAt, Sem.run_bind, run_underlying hu, Result.andThen_ok, Instr.sureAddr, Option.map_none, b1, run_sizeOf' hd, Sem.run_pure, add_plain]
          · simp only [decide_eq_true_eq] at hf
            omega
          · rw [if_neg (by omega)]
            obtain ⟨g1, g2⟩ := hI.real b bx k s e1 e3
            have hpos : 0 < n * P.cellsOf e := Nat.mul_pos (by omega) (by omega)
            obtain ⟨y, hy, _, _⟩ := hI.cells b bx k s e1 e3 (off + n * P.cellsOf e - 1) _ (List.getElem?_eq_getElem (by omega))
            unfold World.cell? at hy
            dsimp only at hy
            split at hy
            · rename_i c et fr hcc
              simp at hy
              have := (Array.getElem?_eq_some_iff.1 hy).1
              refine ⟨k, s, c, et, fr, e3, by rw [Nat.add_assoc], hcc, ?_⟩
              have : n * P.cellsOf e = ll * P.cellsOf e + (n - ll) * P.cellsOf e := by rw [← Nat.add_mul]; congr 1; omega
              omega
            · cases hy
        · cases h
      · cases h
    · cases h
  · rename_i m' hm'
    split at h
    · rename_i h' hh'
      obtain ⟨ym, rfl, rfl⟩ : ∃ y, mx = some y ∧ A y = m' := by cases mx with
        | none => cases hm'
        | some y => simp at hm'; exact ⟨y, rfl, hm'⟩
      obtain ⟨yh, rfl, rfl⟩ : ∃ y, hi = some y ∧ A y = h' := by cases hi with
        | none => cases hh'
        | some y => simp at hh'; exact ⟨y, rfl, hh'⟩
      unfold aslice3 at h
      split at h
      · rename_i hAx
        rw [hAx] at hx
        split at h
        · rename_i e he
          obtain ⟨hu, d, hd⟩ := elemTy_spec he
          obtain ⟨mm, h0, h1⟩ := Option.bind_eq_some_iff.1 h
          obtain ⟨hh, h1', h2⟩ := Option.bind_eq_some_iff.1 h1
          obtain ⟨ll, h3, rfl⟩ := Option.map_eq_some_iff.1 h2
          generalize hv : ρ x = v at hx
          cases hx with
          | emp a =>
            obtain ⟨b1, b2, b3, b4⟩ := run_bounds3 (P := P) hA true (Nat.le_refl 0) h0 h1' h3
            obtain rfl : mm = 0 := by omega
            obtain rfl : hh = 0 := by omega
            obtain rfl : ll = 0 := by omega
            refine .same hI (v := .slice a 0 0) ?_ (.emp a)
            simp only [execOp, ho, hv, Instr.sliceAt, Sem.run_bind, run_underlying hu, Result.andThen_ok, Instr.slice, Option.map_some, b1, run_sizeOf' hd, Sem.run_pure, if_pos]
        · cases h
      · rename_i sz gs hAx
        rw [hAx] at hx
        split at h
        · rename_i e he
          obtain ⟨hu, d, hd⟩ := elemTy_spec he
          obtain ⟨mm, h0, h1⟩ := Option.bind_eq_some_iff.1 h
          split at h1
          · rename_i hm0
            subst hm0
            obtain ⟨hh, h1', h2⟩ := Option.bind_eq_some_iff.1 h1
            obtain ⟨ll, h3, rfl⟩ := Option.map_eq_some_iff.1 h2
            obtain ⟨a, cap, hv, hcap⟩ : ∃ a cap, ρ x = .slice a gs.length cap ∧ gs.length ≤ cap := by
              generalize hv : ρ x = v at hx
              cases hx with
              | lst0 _ a cap => exact ⟨a, cap, by simp, Nat.zero_le _⟩
              | lst _ _ k s cap y hn hg hc hr => exact ⟨_, cap, rfl, hn⟩
            obtain ⟨b1, b2, b3, b4⟩ := run_bounds3 (P := P) hA true hcap h0 h1' h3
            obtain rfl : hh = 0 := by omega
            obtain rfl : ll = 0 := by omega
            refine .same hI (v := .slice a 0 0) ?_ (.emp a)
            simp only [execOp, ho, hv, Instr.sliceAt, Sem.run_bind, run_underlying hu, Result.andThen_ok, Instr.slice, Option.map_some, b1, run_sizeOf' hd, Sem.run_pure, if_pos]
          · cases h1
        · cases h
      · rename_i b g off n sz full hAx
        rw [hAx] at hx
        split at h
        · rename_i e he
          obtain ⟨hu, d, hd⟩ := elemTy_spec he
          split at h
          · rename_i hc
            obtain ⟨hsz, hl⟩ := hc
            obtain ⟨mm, h0, h1⟩ := Option.bind_eq_some_iff.1 h
            obtain ⟨hh, h1', h2⟩ := Option.bind_eq_some_iff.1 h1
            obtain ⟨ll, h3, rfl⟩ := Option.map_eq_some_iff.1 h2
            obtain ⟨bx, e1, e2, a, cap, hv, e4, e5, e6⟩ := live_sl hl hx
            obtain ⟨b1, b2, b3, b4⟩ := run_bounds3 (P := P) hA true e4 h0 h1' h3
            refine .same hI (v := .slice (if mm = ll then a else a.map (·.add (ll * sz))) (hh - ll) (mm - ll)) ?_ (rep_sl e1 e2 ⟨_, _, rfl, by omega, fun hf => ?_, fun h0 => ?_⟩)
            · simp only [execOp, ho, hv, Instr.sliceAt, Sem.run_bind, run_underlying hu, Result.andThen_ok, Instr.slice, Option.map_some, b1, run_sizeOf' hd, Sem.run_pure, hsz]
            · simp only [decide_eq_true_eq] at hf
              omega
            · obtain ⟨k, s, c, et, fr, f1, f2, f3, f4⟩ := e6 (by omega)
              rw [if_neg (by omega)]
              refine ⟨k, s, c, et, fr, f1, by rw [f2]; simp only [Option.map_some, add_plain, Nat.add_assoc], f3, ?_⟩
              have g1 : mm * sz = ll * sz + (mm - ll) * sz := by rw [← Nat.add_mul]; congr 1; omega
              have g2 : mm * sz ≤ cap * sz := Nat.mul_le_mul_right _ (by omega)
              omega
          · cases h
        · cases h
      · cases h
    · cases h

/-! ### Arithmetic -/
def iand (k : IntKind) (a b : Int) : Int := k.wrap (BitVec.ofInt k.bits a &&& BitVec.ofInt k.bits b).toNat
def ior (k : IntKind) (a b : Int) : Int := k.wrap (BitVec.ofInt k.bits a ||| BitVec.ofInt k.bits b).toNat
def ixor (k : IntKind) (a b : Int) : Int := k.wrap (BitVec.ofInt k.bits a ^^^ BitVec.ofInt k.bits b).toNat
def iandNot (k : IntKind) (a b : Int) : Int := k.wrap (BitVec.ofInt k.bits a &&& ~~~ BitVec.ofInt k.bits b).toNat
def aint (op : BinOp) (k : IntKind) (a b : Int) : Option Value :=
  match op with
  | .add => some (.int k (k.wrap (a + b)))
  | .sub => some (.int k (k.wrap (a - b)))
  | .mul => some (.int k (k.wrap (a * b)))
  | .quo => if b = 0 then none else some (.int k (k.wrap (a.tdiv b)))
  | .rem => if b = 0 then none else some (.int k (a.tmod b))
  | .and => some (.int k (iand k a b))
  | .or => some (.int k (ior k a b))
  | .xor => some (.int k (ixor k a b))
  | .andNot => some (.int k (iandNot k a b))
  | .eql => some (.bool (decide (a = b)))
  | .neq => some (.bool (!decide (a = b)))
  | .lss => some (.bool (decide (a < b)))
  | .leq => some (.bool (decide (a ≤ b)))
  | .gtr => some (.bool (decide (b < a)))
  | .geq => some (.bool (decide (b ≤ a)))
  | _ => none
def astr (op : BinOp) (a b : ByteArray) : Option Value :=
  match op with
  | .add => if a.size + b.size ≤ 4611686018427387904 then some (.string (a ++ b)) else none
  | .eql => some (.bool (decide (a = b)))
  | .neq => some (.bool (!decide (a = b)))
  | .lss => some (.bool (Op.bytesLess a.toList b.toList))
  | .gtr => some (.bool (!(Op.bytesLess a.toList b.toList || decide (a = b))))
  | .leq => some (.bool (Op.bytesLess a.toList b.toList || decide (a = b)))
  | .geq => some (.bool (!Op.bytesLess a.toList b.toList))
  | _ => none
def abin (P : Program) (op : BinOp) (t : TypeId) (x y : AV) : Option AV :=
  match x, y with
  | .v (.int k a), .v (.int k' b) =>
    match op with
    | .shl => if b < 0 then none else some (.v (.int k (k.wrap (a * 2 ^ (min b.toNat k.bits)))))
    | .shr => if b < 0 then none else some (.v (.int k (a.fdiv (2 ^ (min b.toNat k.bits)))))
    | op => if k = k' then (aint op k a b).map .v else none
  | .v (.string a), .v (.string b) => (astr op a b).map .v
  | .v (.bool a), .v (.bool b) => match op, P.underlying t with
    | .eql, some .bool => some (.v (.bool (decide (a = b))))
    | .neq, some .bool => some (.v (.bool (!decide (a = b))))
    | _, _ => none
  | .v (.slice none 0 0), .v (.slice none 0 0) => none
  | _, _ => none

theorem beqd {α : Type} [BEq α] [LawfulBEq α] [DecidableEq α] (a b : α) : (a == b) = decide (a = b) := by
  rw [Bool.eq_iff_iff]; simp
theorem bytes_list_eq (a b : ByteArray) : (a.toList == b.toList) = decide (a = b) := by
  rw [Bool.eq_iff_iff]
  simp only [beq_iff_eq, decide_eq_true_eq]
  refine ⟨fun h => ?_, fun h => by rw [h]⟩
  apply ByteArray.ext
  apply Array.ext'
  rwa [ByteArray.toList_eq, ByteArray.toList_eq] at h

theorem run_equal_bool {P : Program} {w : World} {t : TypeId} (hu : P.underlying t = some .bool) (a b : Bool) : (Op.equal t (.bool a) (.bool b)).run P w = .ok (decide (a = b)) w := by
  have : (Op.equalIn (9999 + 1) t (.bool a) (.bool b)).run P w = .ok (decide (a = b)) w := by
    rw [Op.equalIn]
    simp only [Sem.run_bind, run_underlying hu, Result.andThen_ok, Sem.run_pure, beqd]
  exact this
theorem does_binOp (hI : Inv base w H β) (hA : ∀ x, Rep w H β (A x) (ρ x)) {op : BinOp} {t : TypeId} {x y : Operand} {yt : TypeId} (ho : o.op = .binOp op t x y yt) {r : AV} (h : abin P op t (A x) (A y) = some r) : Does P ρ o base w H β r H := by
  have hx := hA x
  have hy := hA y
  unfold abin at h
  split at h
  · rename_i k a k' b hAx hAy
    rw [hAx] at hx
    rw [hAy] at hy
    generalize hvx : ρ x = vx at hx
    generalize hvy : ρ y = vy at hy
    cases hx
    cases hy
    have hguard : ∀ w, (eqGuard op t x y (.int k a) (.int k' b)).run P w = .ok () w := fun w => by
      unfold eqGuard
      cases op <;> rfl
    split at h
    · split at h
      · cases h
      · rename_i hb
        injection h with h
        subst h
        refine .same hI (v := .int k (k.wrap (a * 2 ^ (min b.toNat k.bits)))) ?_ (.v _)
        simp only [execOp, ho, hvx, hvy, Sem.run_bind, hguard, Result.andThen_ok, binOp, Op.shift, if_neg hb, Sem.run_pure]
    · split at h
      · cases h
      · rename_i hb
        injection h with h
        subst h
        refine .same hI (v := .int k (a.fdiv (2 ^ (min b.toNat k.bits)))) ?_ (.v _)
        simp only [execOp, ho, hvx, hvy, Sem.run_bind, hguard, Result.andThen_ok, binOp, Op.shift, if_neg hb, Sem.run_pure]
    · rename_i hn1 hn2
      split at h
      · rename_i hk
        subst hk
        obtain ⟨v, hv, rfl⟩ := Option.map_eq_some_iff.1 h
        refine .same hI (v := v) ?_ (.v _)
        simp only [execOp, ho, hvx, hvy, Sem.run_bind, hguard, Result.andThen_ok]
        cases op <;> first
          | exact absurd rfl hn1
          | exact absurd rfl hn2
          | (simp only [aint, Option.some.injEq, iand, ior, ixor, iandNot] at hv; subst hv; simp [binOp, Op.intArith, Op.intBits, Op.intCmp, bne, beqd]; done)
          | (by_cases hb : b = 0
             · simp [aint, hb] at hv
             · simp only [aint, if_neg hb, Option.some.injEq] at hv
               subst hv
               simp [binOp, Op.intDiv, hb]
               done)
          | (simp [aint] at hv; done)
      · cases h
  · rename_i a b hAx hAy
    rw [hAx] at hx
    rw [hAy] at hy
    generalize hvx : ρ x = vx at hx
    generalize hvy : ρ y = vy at hy
    cases hx
    cases hy
    have hguard : ∀ w, (eqGuard op t x y (.string a) (.string b)).run P w = .ok () w := fun w => by
      unfold eqGuard
      cases op <;> rfl
    obtain ⟨v, hv, rfl⟩ := Option.map_eq_some_iff.1 h
    refine .same hI (v := v) ?_ (.v _)
    simp only [execOp, ho, hvx, hvy, Sem.run_bind, hguard, Result.andThen_ok]
    cases op <;> first
      | (simp only [astr, Option.some.injEq] at hv; subst hv; simp only [binOp, Op.stringOp, bytes_list_eq, Sem.run_pure, Result.andThen_ok]; done)
      | (by_cases hs : a.size + b.size ≤ 4611686018427387904
         · simp only [astr, if_pos hs, Option.some.injEq] at hv
           subst hv
           have hn : ¬ ((a.size + b.size : Nat) : Int) > IntKind.i64.max := by simp [IntKind.max, IntKind.signed, IntKind.bits]; omega
           simp only [binOp, Op.stringOp, if_neg hn, Sem.run_pure, Result.andThen_ok]
           done
         · simp [astr, hs] at hv)
      | (simp [astr] at hv; done)
  · rename_i a b hAx hAy
    rw [hAx] at hx
    rw [hAy] at hy
    generalize hvx : ρ x = vx at hx
    generalize hvy : ρ y = vy at hy
    cases hx
    cases hy
    have hguard : ∀ w, (eqGuard op t x y (.bool a) (.bool b)).run P w = .ok () w := fun w => by
      unfold eqGuard
      cases op <;> rfl
    split at h
    · rename_i hu
      injection h with h
      subst h
      refine .same hI (v := .bool (decide (a = b))) ?_ (.v _)
      simp only [execOp, ho, hvx, hvy, Sem.run_bind, hguard, Result.andThen_ok, binOp, run_equal_bool hu, Sem.run_pure]
    · rename_i hu
      injection h with h
      subst h
      refine .same hI (v := .bool (!decide (a = b))) ?_ (.v _)
      simp only [execOp, ho, hvx, hvy, Sem.run_bind, hguard, Result.andThen_ok, binOp, run_equal_bool hu, Sem.run_pure]
    · cases h
  · cases h
  · cases h

def aun (op : UnOp) (x : AV) : Option AV :=
  match op, x with
  | .neg, .v (.int k n) => some (.v (.int k (k.wrap (0 - n))))
  | .xor, .v (.int k n) => some (.v (.int k (ixor k (if k.signed then -1 else k.max) n)))
  | .not, .v (.bool b) => some (.v (.bool !b))
  | _, _ => none
theorem does_unOp (hI : Inv base w H β) (hA : ∀ x, Rep w H β (A x) (ρ x)) {op : UnOp} {t : TypeId} {x : Operand} (ho : o.op = .unOp op t x) {r : AV} (h : aun op (A x) = some r) : Does P ρ o base w H β r H := by
  have hx := hA x
  unfold aun at h
  split at h
  · rename_i k n hAx
    rw [hAx] at hx
    generalize hvx : ρ x = vx at hx
    cases hx
    injection h with h
    subst h
    exact .same hI (by simp only [execOp, ho, hvx, Op.unary, Op.intArith, Sem.run_bind, Sem.run_pure, Result.andThen_ok]) (.v _)
  · rename_i k n hAx
    rw [hAx] at hx
    generalize hvx : ρ x = vx at hx
    cases hx
    injection h with h
    subst h
    exact .same hI (by simp only [execOp, ho, hvx, ixor, Op.unary, Op.intBits, Sem.run_bind, Sem.run_pure, Result.andThen_ok]) (.v _)
  · rename_i b hAx
    rw [hAx] at hx
    generalize hvx : ρ x = vx at hx
    cases hx
    injection h with h
    subst h
    exact .same hI (by simp only [execOp, ho, hvx, Op.unary, Sem.run_bind, Sem.run_pure, Result.andThen_ok]) (.v _)
  · cases h

/-! ### Conversions -/
/-- The bytes of rows of one byte each. -/
def bytesOf : List (List AV) → Option (List UInt8)
  | [] => some []
  | [.v (.int .u8 n)] :: r => (bytesOf r).map (UInt8.ofNat n.toNat :: ·)
  | _ => none
def bytesG (bs : List UInt8) : List (List AV) := bs.map fun b => [.v (.int .u8 b.toNat)]
theorem bytesOf_bytesG (bs : List UInt8) : bytesOf (bytesG bs) = some bs := by
  induction bs with
  | nil => rfl
  | cons b r ih =>
    simp only [bytesG, List.map_cons, bytesOf] at ih ⊢
    rw [ih]
    simp

def aconv (P : Program) (src dst : TypeId) (x : AV) : Option AV :=
  match P.underlying src, P.underlying dst, x with
  | some _, some (.int k), .v (.int _ n) => some (.v (.int k (k.wrap n)))
  | some _, some .string, .v (.string s) => some (.v (.string s))
  | some (.slice e), some .string, .emp => match P.underlying e with
    | some (.int .u8) => some (.v (.string ⟨#[]⟩))
    | _ => none
  | some (.slice e), some .string, .lst 1 gs => match P.underlying e with
    | some (.int .u8) => (bytesOf gs).map fun bs => .v (.string ⟨bs.toArray⟩)
    | _ => none
  | some .string, some (.slice e), .v (.string s) => match P.underlying e with
    | some (.int .u8) => if s.size < 9223372036854775808 then some (.lst 1 (bytesG s.data.toList)) else none
    | _ => none
  | _, _, _ => none

end ops
end Go.Proofs.YtjkdahpoalnjjaaDoor.VL

/- The value logic, part 5: conversions between text and bytes, len, min, max, append, copy, make. -/
set_option linter.unusedVariables false
set_option linter.unusedSimpArgs false
namespace Go.Proofs.YtjkdahpoalnjjaaDoor.VL
open Go Go.RowKit Go.Lib

section ops
variable {P : Program} {ρ : Operand → Value} {A : Operand → AV} {o : Oper} {base : Nat} {w : World} {H : List Box} {β : Pl}

theorem bytesOf_get : ∀ (gs : List (List AV)) (bs : List UInt8), bytesOf gs = some bs → ∃ xs : List Int, gs = xs.map (fun n => [AV.v (.int .u8 n)]) ∧ bs = xs.map fun n => UInt8.ofNat n.toNat := by
  intro gs
  induction gs with
  | nil => intro bs h; simp [bytesOf] at h; exact ⟨[], rfl, by simp [h]⟩
  | cons g r ih =>
    intro bs h
    unfold bytesOf at h
    split at h
    · rename_i heq; cases heq
    · rename_i n r' heq
      injection heq with e1 e2
      subst e1; subst e2
      obtain ⟨bs', h1, rfl⟩ := Option.map_eq_some_iff.1 h
      obtain ⟨xs, rfl, rfl⟩ := ih _ h1
      exact ⟨n :: xs, rfl, rfl⟩
    · cases h

theorem does_convert (hI : Inv base w H β) (hA : ∀ x, Rep w H β (A x) (ρ x)) {src dst : TypeId} {x : Operand} (ho : o.op = .convert src dst x) {r : AV} (h : aconv P src dst (A x) = some r) : Does P ρ o base w H β r H := by
  have hx := hA x
  unfold aconv at h
  split at h
  · rename_i d k k' n hs hd hAx
    rw [hAx] at hx
    generalize hv : ρ x = v at hx
    cases hx
    injection h with h
    subst h
    exact .same hI (by simp only [execOp, ho, hv, Sem.run_bind, convert, run_underlying hs, run_underlying hd, Result.andThen_ok, Conv.intToInt, Sem.run_pure]) (.v _)
  · rename_i d s hs hd hAx
    rw [hAx] at hx
    generalize hv : ρ x = v at hx
    cases hx
    injection h with h
    subst h
    exact .same hI (by simp only [execOp, ho, hv, Sem.run_bind, convert, run_underlying hs, run_underlying hd, Result.andThen_ok, Sem.run_pure]) (.v _)
  · rename_i e hs hd hAx
    rw [hAx] at hx
    split at h
    · rename_i he
      generalize hv : ρ x = v at hx
      cases hx with
      | emp a =>
        injection h with h
        subst h
        cases a with
        | none =>
          have := run_convert_bytes_nil (P := P) w src e hs he 0 0 dst hd
          exact .same hI (v := .string ⟨#[]⟩) (by simp only [execOp, ho, hv, Sem.run_bind, this, Result.andThen_ok, Sem.run_pure]; rfl) (.v _)
        | some a =>
          obtain ⟨k, s, sp⟩ := a
          have : (convert src dst (.slice (some ⟨k, s, sp⟩) 0 0)).run P w = .ok (.string ⟨#[]⟩) w := by
            rw [run_convert_bytes_string w src dst e _ 0 0 hs he hd]
            simp [Conv.bytesToString, loadCells, loadCellsFrom]
            rfl
          exact .same hI (v := .string ⟨#[]⟩) (by simp only [execOp, ho, hv, Sem.run_bind, this, Result.andThen_ok, Sem.run_pure]) (.v _)
    · cases h
  · rename_i e gs hs hd hAx
    rw [hAx] at hx
    split at h
    · rename_i he
      obtain ⟨bs, h1, rfl⟩ := Option.map_eq_some_iff.1 h
      obtain ⟨xs, rfl, rfl⟩ := bytesOf_get gs bs h1
      generalize hv : ρ x = v at hx
      generalize hgs : xs.map (fun n => [AV.v (.int .u8 n)]) = gs at hx
      cases hx with
      | lst0 _ a cap =>
        obtain rfl : xs = [] := by cases xs with | nil => rfl | cons _ _ => simp at hgs
        have : (convert src dst (.slice a 0 cap)).run P w = .ok (.string ⟨#[]⟩) w := by
          rw [run_convert_bytes_string w src dst e _ 0 cap hs he hd]
          cases a with
          | none => simp [Conv.bytesToString]; rfl
          | some a => simp [Conv.bytesToString, loadCells, loadCellsFrom]; rfl
        exact .same hI (v := .string ⟨#[]⟩) (by simp only [execOp, ho, hv, Sem.run_bind, this, Result.andThen_ok, Sem.run_pure]) (.v _)
      | lst _ _ k s cap y hn hg hc hr =>
        subst hgs
        have hcell : ∀ i, i < xs.length → w.cell? ⟨k, s + i, none⟩ = some (.int .u8 (xs.getD i 0)) := fun i hi => by
          have hgi : (xs.map fun n => [AV.v (.int .u8 n)])[i]? = some [AV.v (.int .u8 xs[i])] := by simp [hi]
          have h1 := (hc i 0 _ _ hgi rfl).1
          have h2 := hr i 0 _ _ hgi rfl
          generalize hy : y i 0 = z at h2 h1
          cases h2
          simpa [hi] using h1
        have := run_convert_bytes_arg (P := P) w src e hs he k s (xs.map fun n => [AV.v (.int .u8 n)]).length cap xs (by simp) (fun i hi => hcell i (by simpa using hi)) dst hd
        exact .same hI (v := .string (strOfNums xs)) (by simp only [execOp, ho, hv, Sem.run_bind, this, Result.andThen_ok, Sem.run_pure]) (.v _)
    · cases h
  · rename_i e s hs hd hAx
    rw [hAx] at hx
    split at h
    · rename_i he
      split at h
      · rename_i hlen
        injection h with h
        subst h
        generalize hv : ρ x = v at hx
        cases hx
        have hrun := run_convert_string_bytes (P := P) w src dst e s hs hd he
        have hk : ∀ k x, k < w.heap.size → (bytesWorld w e s).cell? ⟨k, x, none⟩ = w.cell? ⟨k, x, none⟩ := fun k x hk => bytesWorld_old w e s ⟨k, x, none⟩ hk
        have hw : Wor w (bytesWorld w e s) := ⟨rfl, rfl, rfl, by rw [bytesWorld_size]; omega, fun k c e' fr hh => ⟨c, by rw [bytesWorld_at_old w e s k (Array.getElem?_eq_some_iff.1 hh).1]; exact hh, rfl⟩, fun k o hh _ => by rw [bytesWorld_at_old w e s k (Array.getElem?_eq_some_iff.1 hh).1]; exact hh⟩
        obtain ⟨i1, i2⟩ := still hI hw hk
        have hl : (bytesG s.data.toList).length = s.size := by simp [bytesG]
        have hcap : s.size ≤ grownCap w s.size 0 e := Nat.le_add_right _ _
        have hget : ∀ (i j : Nat) (g : List AV) (c : AV), (bytesG s.data.toList)[i]? = some g → g[j]? = some c → i < s.size ∧ j = 0 ∧ c = .v (.int .u8 (s.data.toList.getD i 0).toNat) := fun i j g c hi hj => by
          have hil := (List.getElem?_eq_some_iff.1 hi).1
          rw [hl] at hil
          have hil' : i < s.data.toList.length := by simpa using hil
          simp only [bytesG, List.getElem?_map, List.getElem?_eq_getElem hil', Option.map_some, Option.some.injEq] at hi
          subst hi
          cases j with
          | zero => simp at hj; exact ⟨hil, rfl, by rw [← hj, List.getD_eq_getElem?_getD, List.getElem?_eq_getElem hil']; rfl⟩
          | succ j => simp at hj
        refine ⟨.slice (some ⟨w.heap.size, 0, none⟩) s.size (grownCap w s.size 0 e), bytesWorld w e s, β, .inl ?_, i1, i2, ?_⟩
        · simp only [execOp, ho, hv, Sem.run_bind, hrun, Result.andThen_ok, Sem.run_pure]
        · have := Rep.lst (w := bytesWorld w e s) (H := H) (β := β) 1 (bytesG s.data.toList) w.heap.size 0 (grownCap w s.size 0 e) (fun i j => .int .u8 (s.data.toList.getD i 0).toNat) (by omega)
            (fun i g hi => by
              have hil := (List.getElem?_eq_some_iff.1 hi).1
              simp only [bytesG, List.length_map] at hil
              simp only [bytesG, List.getElem?_map, List.getElem?_eq_getElem hil, Option.map_some, Option.some.injEq] at hi
              rw [← hi]; rfl)
            (fun i j g c hi hj => by
              obtain ⟨h1, rfl, rfl⟩ := hget i j g c hi hj
              refine ⟨by rw [show 0 + i * 1 + 0 = i by omega]; exact bytesWorld_cell w e s i h1, rfl, ?_⟩
              rintro ⟨i', bx, s', a1, a2, _⟩
              have := (hI.real i' bx _ s' a1 a2).2
              omega)
            (fun i j g c hi hj => by
              obtain ⟨h1, rfl, rfl⟩ := hget i j g c hi hj
              exact .v _)
          rwa [hl] at this
      · cases h
    · cases h
  · cases h
/-! ### The built-in functions on numbers -/
def alen (P : Program) (t : TypeId) (H : List Box) (x : AV) : Option AV :=
  match P.underlying t, x with
  | some .string, .v (.string s) => some (.v (.int .i64 s.size))
  | some (.array n _), _ => some (.v (.int .i64 n))
  | some (.slice _), .lst _ gs => some (.v (.int .i64 gs.length))
  | some (.slice _), .emp => some (.v (.int .i64 0))
  | some (.slice _), .sl b g _ n _ _ => if live H b g then some (.v (.int .i64 n)) else none
  | _, _ => none
theorem does_len (hI : Inv base w H β) (hA : ∀ x, Rep w H β (A x) (ρ x)) {t : TypeId} {x : Operand} (ho : o.op = .call { callee := .builtin .len, args := #[x], argTypes := #[t] }) {r : AV} (h : alen P t H (A x) = some r) : Does P ρ o base w H β r H := by
  have hx := hA x
  have key : ∀ n : Nat, (Builtin.len_ #[t] o.type #[ρ x]).run P w = .ok (goInt n) w → Does P ρ o base w H β (.v (.int .i64 n)) H := fun n hn =>
    .same hI (v := .int .i64 n) (by simp [execOp, ho, resolve, invoke, builtin, hn]; rfl) (.v _)
  unfold alen at h
  split at h
  · rename_i s hu hAx
    rw [hAx] at hx
    injection h with h
    subst h
    generalize hv : ρ x = v at hx
    cases hx
    exact key _ (by rw [hv]; simp [Builtin.len_, run_underlying hu])
  · rename_i n e y hu
    injection h with h
    subst h
    refine key _ ?_
    simp [Builtin.len_, run_underlying hu]
  · rename_i e sz gs hu hAx
    rw [hAx] at hx
    injection h with h
    subst h
    generalize hv : ρ x = v at hx
    cases hx with
    | lst0 => exact key 0 (by rw [hv]; simp [Builtin.len_, run_underlying hu])
    | lst => exact key _ (by rw [hv]; simp [Builtin.len_, run_underlying hu])
  · rename_i e hu hAx
    rw [hAx] at hx
    injection h with h
    subst h
    generalize hv : ρ x = v at hx
    cases hx with
    | emp a => exact key 0 (by rw [hv]; simp [Builtin.len_, run_underlying hu])
  · rename_i e b g off n sz full hu hAx
    rw [hAx] at hx
    split at h
    · rename_i hl
      injection h with h
      subst h
      obtain ⟨bx, e1, e2, a, cap, hv, _⟩ := live_sl hl hx
      exact key _ (by rw [hv]; simp [Builtin.len_, run_underlying hu])
    · cases h
  · cases h

def amin (x y : AV) : Option AV := match x, y with | .v (.int k a), .v (.int k' b) => if k = k' then some (.v (.int k (if b < a then b else a))) else none | _, _ => none
def amax (x y : AV) : Option AV := match x, y with | .v (.int k a), .v (.int k' b) => if k = k' then some (.v (.int k (if a < b then b else a))) else none | _, _ => none
theorem does_min (hI : Inv base w H β) (hA : ∀ x, Rep w H β (A x) (ρ x)) {ts : Array TypeId} {x y : Operand} (ho : o.op = .call { callee := .builtin .min, args := #[x, y], argTypes := ts }) {r : AV} (h : amin (A x) (A y) = some r) : Does P ρ o base w H β r H := by
  have hx := hA x
  have hy := hA y
  unfold amin at h
  split at h
  · rename_i k a k' b hAx hAy
    rw [hAx] at hx
    rw [hAy] at hy
    generalize hvx : ρ x = vx at hx
    generalize hvy : ρ y = vy at hy
    cases hx
    cases hy
    split at h
    · injection h with h
      subst h
      refine .same hI (v := .int k (if b < a then b else a)) ?_ (.v _)
      simp [execOp, ho, resolve, invoke, builtin, Builtin.min_, Builtin.min2, hvx, hvy]
    · cases h
  · cases h
theorem does_max (hI : Inv base w H β) (hA : ∀ x, Rep w H β (A x) (ρ x)) {ts : Array TypeId} {x y : Operand} (ho : o.op = .call { callee := .builtin .max, args := #[x, y], argTypes := ts }) {r : AV} (h : amax (A x) (A y) = some r) : Does P ρ o base w H β r H := by
  have hx := hA x
  have hy := hA y
  unfold amax at h
  split at h
  · rename_i k a k' b hAx hAy
    rw [hAx] at hx
    rw [hAy] at hy
    generalize hvx : ρ x = vx at hx
    generalize hvy : ρ y = vy at hy
    cases hx
    cases hy
    split at h
    · injection h with h
      subst h
      refine .same hI (v := .int k (if a < b then b else a)) ?_ (.v _)
      simp [execOp, ho, resolve, invoke, builtin, Builtin.max_, Builtin.max2, hvx, hvy]
    · cases h
  · cases h

/-! ### What is read of a slice or a text, as rows -/
def asrc (sz : Nat) (H : List Box) : AV → Option (List (List AV))
  | .lst s gs => if s = sz then some gs else none
  | .emp => some []
  | .sl b g off n s _ => match H[b]? with
    | some bx => if bx.gen = g ∧ s = sz ∧ off + n * sz ≤ bx.cells.length then some (chunk sz n (bx.cells.drop off)) else none
    | none => none
  | .v (.string s) => if sz = 1 then some (bytesG s.data.toList) else none
  | _ => none

/-- Values that rows say. -/
def Rows' (w : World) (H : List Box) (β : Pl) (sz : Nat) (gs : List (List AV)) (vs : List Value) : Prop :=
  vs.length = gs.length * sz ∧ (∀ v ∈ vs, v.oneCell' = true) ∧ (∀ (i : Nat) (g : List AV), gs[i]? = some g → g.length = sz) ∧ ∀ (i j : Nat) (g : List AV) (c : AV), gs[i]? = some g → g[j]? = some c → ∃ y, vs[i * sz + j]? = some y ∧ Rep w H β c y

theorem bytes_get {bs : List UInt8} {i : Nat} {g : List AV} (h : (bytesG bs)[i]? = some g) : ∃ b, bs[i]? = some b ∧ g = [.v (.int .u8 b.toNat)] := by
  simp only [bytesG, List.getElem?_map] at h
  obtain ⟨b, h1, h2⟩ := Option.map_eq_some_iff.1 h
  exact ⟨b, h1, h2.symm⟩

theorem firstCells_some (w : World) (k s n cap sz len : Nat) (f : Nat → Value) (h : ∀ j, j < n * sz → w.cell? ⟨k, s + j, none⟩ = some (f j)) :
    (Builtin.firstCells sz n (.slice (some ⟨k, s, none⟩) len cap)).run P w = .ok ((List.range (n * sz)).map f).toArray w := by
  simp only [Builtin.firstCells]
  exact run_loadCells w _ _ f (fun j hj => by rw [add_plain]; exact h j hj)

theorem src_run {x : AV} {v : Value} {sz : Nat} {gs : List (List AV)} (hI : Inv base w H β) (hx : Rep w H β x v) (h : asrc sz H x = some gs) :
    (∀ w', (Builtin.lenOf v).run P w' = .ok gs.length w') ∧ ∃ vs, Rows' w H β sz gs vs ∧ ∀ w' : World, (∀ k x, k < w.heap.size → w'.cell? ⟨k, x, none⟩ = w.cell? ⟨k, x, none⟩) → (Builtin.firstCells sz gs.length v).run P w' = .ok vs.toArray w' := by
  unfold asrc at h
  split at h
  · rename_i s gs'
    split at h
    · rename_i hs
      subst hs
      injection h with h
      subst h
      cases hx with
      | lst0 _ a cap =>
        refine ⟨fun _ => rfl, [], ⟨by simp, by simp, by simp, by simp⟩, fun w' _ => ?_⟩
        cases a <;> simp [Builtin.firstCells, loadCells, loadCellsFrom]
      | lst _ _ k st cap y hn hg hc hr =>
        refine ⟨fun _ => rfl, (List.range (gs'.length * s)).map (fun j => y (j / s) (j % s)), ⟨by simp, ?_, hg, ?_⟩, fun w' hk => ?_⟩
        · intro v hv
          simp only [List.mem_map, List.mem_range] at hv
          obtain ⟨j, hj, rfl⟩ := hv
          have hs : 0 < s := by
            rcases Nat.eq_zero_or_pos s with h0 | h0
            · subst h0; simp at hj
            · exact h0
          have hd : j / s < gs'.length := (Nat.div_lt_iff_lt_mul hs).2 hj
          have hm : j % s < s := Nat.mod_lt _ hs
          have hgl := hg _ _ (List.getElem?_eq_getElem hd)
          exact (hc (j / s) (j % s) _ _ (List.getElem?_eq_getElem hd) (List.getElem?_eq_getElem (by omega))).2.1
        · intro i j g c hi hj
          have hil := (List.getElem?_eq_some_iff.1 hi).1
          have hjl := (List.getElem?_eq_some_iff.1 hj).1
          have hgl := hg i g hi
          have hlt : i * s + j < gs'.length * s := by
            have : (i + 1) * s ≤ gs'.length * s := Nat.mul_le_mul_right _ hil
            rw [Nat.add_mul] at this
            omega
          refine ⟨y i j, ?_, hr i j g c hi hj⟩
          have h1 : (i * s + j) / s = i := by rw [Nat.mul_comm, Nat.mul_add_div (by omega)]; rw [Nat.div_eq_of_lt (by omega)]; omega
          have h2 : (i * s + j) % s = j := by rw [Nat.mul_comm, Nat.mul_add_mod]; exact Nat.mod_eq_of_lt (by omega)
          simp [hlt, h1, h2]
        · refine firstCells_some w' k st gs'.length cap s _ _ fun j hj => ?_
          have hs : 0 < s := by
            rcases Nat.eq_zero_or_pos s with h0 | h0
            · subst h0; simp at hj
            · exact h0
          have hd : j / s < gs'.length := (Nat.div_lt_iff_lt_mul hs).2 hj
          have hm : j % s < s := Nat.mod_lt _ hs
          have hgl := hg _ _ (List.getElem?_eq_getElem hd)
          have hcell := (hc (j / s) (j % s) _ _ (List.getElem?_eq_getElem hd) (List.getElem?_eq_getElem (by omega))).1
          have e : st + j / s * s + j % s = st + j := by have := Nat.div_add_mod j s; rw [Nat.mul_comm] at this; omega
          rw [e] at hcell
          rw [hk k _ (cell_lt hcell)]
          exact hcell
    · cases h
  · injection h with h
    subst h
    cases hx with
    | emp a =>
      refine ⟨fun _ => rfl, [], ⟨by simp, by simp, by simp, by simp⟩, fun w' _ => ?_⟩
      cases a <;> simp [Builtin.firstCells, loadCells, loadCellsFrom]
  · rename_i b g off n s full
    split at h
    · rename_i bx hb
      split at h
      · rename_i hc
        obtain ⟨hg, rfl, hfit⟩ := hc
        injection h with h
        subst h
        obtain ⟨bx', e1, e2, a, cap, rfl, e4, e5, e6⟩ := live_sl (by simp [live, hb, hg]) hx
        rw [hb] at e1
        obtain rfl := Option.some.inj e1
        refine ⟨fun _ => by rw [chunk_length]; rfl, ?_⟩
        rw [chunk_length]
        by_cases hn0 : n = 0
        · subst hn0
          refine ⟨[], ⟨by simp [chunk], by simp, by simp [chunk], by simp [chunk]⟩, fun w' _ => ?_⟩
          cases a <;> simp [Builtin.firstCells, loadCells, loadCellsFrom]
        · obtain ⟨k, st, c, et, fr, f1, f2, f3, f4⟩ := e6 (by omega)
          subst f2
          have hcell : ∀ j, j < n * s → ∃ x, w.cell? ⟨k, st + off + j, none⟩ = some x ∧ x.oneCell' = true ∧ Rep w H β (bx.cells.getD (off + j) .dead) x := fun j hj => by
            obtain ⟨x, h1, h2, h3⟩ := hI.cells b bx k st hb f1 (off + j) _ (List.getElem?_eq_getElem (by omega))
            refine ⟨x, by rw [Nat.add_assoc]; exact h1, h2, ?_⟩
            rw [List.getD_eq_getElem?_getD, List.getElem?_eq_getElem (by omega)]
            exact h3
          let f : Nat → Value := fun j => (w.cell? ⟨k, st + off + j, none⟩).getD undef
          have hf : ∀ j, j < n * s → w.cell? ⟨k, st + off + j, none⟩ = some (f j) := fun j hj => by
            obtain ⟨x, h1, _⟩ := hcell j hj
            simp only [f, h1, Option.getD_some]
          refine ⟨(List.range (n * s)).map f, ⟨by simp [chunk_length], ?_, ?_, ?_⟩, fun w' hk => firstCells_some w' k (st + off) n cap s n f fun j hj => ?_⟩
          · intro v hv
            simp only [List.mem_map, List.mem_range] at hv
            obtain ⟨j, hj, rfl⟩ := hv
            obtain ⟨x, h1, h2, _⟩ := hcell j hj
            simp only [f, h1, Option.getD_some]
            exact h2
          · intro i g hi
            obtain ⟨h1, rfl⟩ := chunk_get _ _ _ _ _ hi
            simp only [List.length_take, List.length_drop]
            have : (i + 1) * s ≤ n * s := Nat.mul_le_mul_right _ h1
            rw [Nat.add_mul] at this
            omega
          · intro i j g c hi hj
            obtain ⟨h1, rfl⟩ := chunk_get _ _ _ _ _ hi
            have hjl := (List.getElem?_eq_some_iff.1 hj).1
            simp only [List.length_take] at hjl
            have : (i + 1) * s ≤ n * s := Nat.mul_le_mul_right _ h1
            rw [Nat.add_mul] at this
            have hlt : i * s + j < n * s := by omega
            obtain ⟨x, g1, g2, g3⟩ := hcell (i * s + j) hlt
            refine ⟨x, ?_, ?_⟩
            · simp only [List.getElem?_map, List.getElem?_range hlt, Option.map_some, f, g1, Option.getD_some]
            · rw [List.getElem?_take_of_lt (by omega), List.getElem?_drop, List.getElem?_drop] at hj
              rw [List.getD_eq_getElem?_getD, hj] at g3
              exact g3
          · have := hf j hj
            rw [hk k _ (cell_lt this)]
            exact this
      · cases h
    · cases h
  · rename_i s
    split at h
    · rename_i hsz
      subst hsz
      injection h with h
      subst h
      cases hx
      have hl : (bytesG s.data.toList).length = s.size := by simp [bytesG]
      refine ⟨fun _ => by rw [hl]; rfl, (s.data.map fun b => Value.int .u8 b.toNat).toList, ⟨by simp [bytesG], ?_, ?_, ?_⟩, fun w' _ => ?_⟩
      · intro v hv
        simp only [Array.toList_map, List.mem_map] at hv
        obtain ⟨b, _, rfl⟩ := hv
        rfl
      · intro i g hi
        obtain ⟨b, _, rfl⟩ := bytes_get hi
        rfl
      · intro i j g c hi hj
        obtain ⟨b, h1, rfl⟩ := bytes_get hi
        cases j with
        | zero =>
          simp at hj
          subst hj
          exact ⟨.int .u8 b.toNat, by simp [Array.getElem?_toList] at h1 ⊢; exact ⟨b, h1, rfl⟩, .v _⟩
        | succ j => simp at hj
      · rw [hl]
        have : s.extract 0 s.size = s := by simp
        simp only [Builtin.firstCells, this, Sem.run_pure, Array.toList_map, ← List.map_toArray]
    · cases h
  · cases h

end ops
end Go.Proofs.YtjkdahpoalnjjaaDoor.VL

/- The value logic, part 6: append, copy, make. -/
set_option linter.unusedVariables false
set_option linter.unusedSimpArgs false
namespace Go.Proofs.YtjkdahpoalnjjaaDoor.VL
open Go Go.RowKit Go.Lib

section ops
variable {P : Program} {ρ : Operand → Value} {A : Operand → AV} {o : Oper} {base : Nat} {w : World} {H : List Box} {β : Pl}

def notInt (P : Program) (t : TypeId) : Bool := match P.underlying t with | some (.slice _) | some .string => true | _ => false

theorem run_append_grow' {t t2 ty e : TypeId} {i : TypeInfo} {z : Value} (ht : P.underlying t = some (.slice e)) (h2 : notInt P t2 = true) (hi : P.info? e = some i) (hz : i.zero = some z)
    {a : Option Addr} {n cap m : Nat} {x : Value} {olds news : List Value} (hx : ∀ w', (Builtin.lenOf x).run P w' = .ok m w')
    (ho : (Builtin.firstCells i.size n (.slice a n cap)).run P w.drew = .ok olds.toArray w.drew) (hnw : (Builtin.firstCells i.size m x).run P w.drew = .ok news.toArray w.drew)
    (hg : cap < n + m) (h63 : ((n + m : Nat) : Int) ≤ 9223372036854775807) (hfit : Builtin.nextslicecap (n + m) cap * i.bytes ≤ 281474976710656) :
    (Builtin.append_ #[t, t2] ty #[.slice a n cap, x]).run P w =
      .ok (.slice (some ⟨w.heap.size, 0, none⟩) (n + m) (grownCap w (n + m) cap e))
        (w.drew.alloc (.cells (olds.toArray ++ news.toArray ++ Builtin.zeroCells z.cells (grownCap w (n + m) cap e - (n + m))) e)) := by
  have hn : ¬ (n + m ≤ cap) := by omega
  have h63' : ¬ (9223372036854775807 < ((n : Int) + (m : Int))) := by omega
  have h48' : ¬ (281474976710656 < Builtin.nextslicecap (n + m) cap * i.bytes) := by omega
  unfold notInt at h2
  split at h2
  · rename_i e' hd2
    simp [Builtin.append_, run_underlying ht, run_underlying hd2, sizeOf, typeInfo, zeroValue, hi, hz, hx, hn, h63', h48', Question.forced, hnw, ho, newRow, grownCap]
    congr 2
    apply Array.ext'
    simp
  · rename_i hd2
    simp [Builtin.append_, run_underlying ht, run_underlying hd2, sizeOf, typeInfo, zeroValue, hi, hz, hx, hn, h63', h48', Question.forced, hnw, ho, newRow, grownCap]
    congr 2
    apply Array.ext'
    simp
  · cases h2

/-- Within the capacity. -/
theorem run_append_fits' {t t2 ty e : TypeId} {d : TypeDesc} (ht : P.underlying t = some (.slice e)) (hd : P.underlying e = some d) (h2 : notInt P t2 = true)
    {k s n cap m : Nat} {x : Value} {news : List Value} (hx : ∀ w', (Builtin.lenOf x).run P w' = .ok m w')
    (hnw : (Builtin.firstCells (P.cellsOf e) m x).run P w = .ok news.toArray w) (hg : n + m ≤ cap) {w' : World}
    (hst : (storeCells ⟨k, s + n * P.cellsOf e, none⟩ news).run P w = .ok () w') :
    (Builtin.append_ #[t, t2] ty #[.slice (some ⟨k, s, none⟩) n cap, x]).run P w = .ok (.slice (some ⟨k, s, none⟩) (n + m) cap) w' := by
  unfold notInt at h2
  split at h2
  · rename_i e' hd2
    simp [Builtin.append_, run_underlying ht, run_underlying hd2, run_sizeOf' hd, hx, hg, hnw, add_plain, hst]
  · rename_i hd2
    simp [Builtin.append_, run_underlying ht, run_underlying hd2, run_sizeOf' hd, hx, hg, hnw, add_plain, hst]
  · cases h2
theorem run_append_none' {t t2 ty e : TypeId} {d : TypeDesc} (ht : P.underlying t = some (.slice e)) (hd : P.underlying e = some d) (h2 : notInt P t2 = true)
    {x : Value} {a : Option Addr} {n cap : Nat} (hn : n ≤ cap) (hx : ∀ w', (Builtin.lenOf x).run P w' = .ok 0 w') (hnw : (Builtin.firstCells (P.cellsOf e) 0 x).run P w = .ok #[] w) :
    (Builtin.append_ #[t, t2] ty #[.slice a n cap, x]).run P w = .ok (.slice a n cap) w := by
  unfold notInt at h2
  split at h2
  · rename_i e' hd2
    cases a <;> simp [Builtin.append_, run_underlying ht, run_underlying hd2, run_sizeOf' hd, hx, hn, hnw, storeCells]
  · rename_i hd2
    cases a <;> simp [Builtin.append_, run_underlying ht, run_underlying hd2, run_sizeOf' hd, hx, hn, hnw, storeCells]
  · cases h2

/-- The cells of rows, one behind another. -/
def flat (gs : List (List AV)) : List AV := gs.flatten
theorem flat_length {gs : List (List AV)} {sz : Nat} (h : ∀ (i : Nat) (g : List AV), gs[i]? = some g → g.length = sz) : (flat gs).length = gs.length * sz := by
  unfold flat
  induction gs with
  | nil => simp
  | cons g r ih =>
    have h0 := h 0 g rfl
    have := ih (fun i g hi => h (i + 1) g (by simpa using hi))
    simp [this, h0, Nat.add_mul]
    omega
theorem flat_get {gs : List (List AV)} {sz : Nat} (h : ∀ (i : Nat) (g : List AV), gs[i]? = some g → g.length = sz) (j : Nat) (c : AV) (hc : (flat gs)[j]? = some c) :
    ∃ i k g, gs[i]? = some g ∧ g[k]? = some c ∧ j = i * sz + k := by
  unfold flat at hc
  induction gs generalizing j with
  | nil => simp at hc
  | cons g r ih =>
    have h0 := h 0 g rfl
    rw [List.flatten_cons] at hc
    by_cases hj : j < g.length
    · rw [List.getElem?_append_left hj] at hc
      exact ⟨0, j, g, rfl, hc, by omega⟩
    · rw [List.getElem?_append_right (by omega)] at hc
      obtain ⟨i, k, g', h1, h2, h3⟩ := ih (fun i g hi => h (i + 1) g (by simpa using hi)) _ hc
      exact ⟨i + 1, k, g', by simpa using h1, h2, by rw [Nat.add_mul]; omega⟩

theorem Rows'.flat {sz : Nat} {gs : List (List AV)} {vs : List Value} (h : Rows' w H β sz gs vs) : vs.length = (flat gs).length ∧ ∀ (j : Nat) (c : AV), (VL.flat gs)[j]? = some c → ∃ y, vs[j]? = some y ∧ y.oneCell' = true ∧ Rep w H β c y := by
  obtain ⟨h1, h2, h3, h4⟩ := h
  refine ⟨by rw [flat_length h3, h1], fun j c hc => ?_⟩
  obtain ⟨i, k, g, g1, g2, rfl⟩ := flat_get h3 j c hc
  obtain ⟨y, e1, e2⟩ := h4 i k g c g1 g2
  exact ⟨y, e1, h2 y (List.mem_of_getElem? e1), e2⟩

def aappend (P : Program) (t : TypeId) (H : List Box) (s x : AV) : Option (AV × List Box) :=
  match elemTy P t with
  | none => none
  | some e =>
    match asrc (P.cellsOf e) H x with
    | none => none
    | some gs =>
      if (zeroCs P e).map List.length = some (P.cellsOf e) ∧ P.bytesOf e ≠ 0 then
        match s with
        | .emp => if gs.length * P.bytesOf e ≤ 140737488355328 then some (.sl H.length 0 0 gs.length (P.cellsOf e) false, H ++ [⟨flat gs, 0, 0, true⟩]) else none
        | .sl b g off n sz false => match H[b]? with
          | some bx => if bx.gen = g ∧ sz = P.cellsOf e ∧ off + n * sz = bx.cells.length ∧ bx.grow = true ∧ (n + gs.length) * P.bytesOf e ≤ 140737488355328 then
              some (.sl b (g + 1) 0 (n + gs.length) sz false, H.set b ⟨bx.cells.drop off ++ flat gs, bx.ro - off, g + 1, true⟩) else none
          | none => none
        | .sl b g off n sz true => match H[b]? with
          | some bx => if bx.gen = g ∧ sz = P.cellsOf e ∧ off + n * sz ≤ bx.cells.length ∧ 0 < gs.length ∧ (n + gs.length) * P.bytesOf e ≤ 140737488355328 then
              some (.sl H.length 0 0 (n + gs.length) sz false, H ++ [⟨(bx.cells.drop off).take (n * sz) ++ flat gs, 0, 0, true⟩]) else none
          | none => none
        | _ => none
      else none

theorem zero_info {e : TypeId} {n : Nat} (h : (zeroCs P e).map List.length = some n) : ∃ i z, P.info? e = some i ∧ i.zero = some z ∧ i.size = P.cellsOf e ∧ i.bytes = P.bytesOf e ∧ z.cells.size = n := by
  obtain ⟨cs, h, hl⟩ := Option.map_eq_some_iff.1 h
  unfold zeroCs at h
  obtain ⟨z, h1, h2⟩ := Option.bind_eq_some_iff.1 h
  obtain ⟨i, h3, h4⟩ := Option.bind_eq_some_iff.1 h1
  split at h2
  · injection h2 with h2
    subst h2
    exact ⟨i, z, h3, h4, by simp [Program.cellsOf, h3], by simp [Program.bytesOf, h3], by simpa using hl⟩
  · cases h2
theorem zeroCells_size (z : Array Value) (n : Nat) : (Builtin.zeroCells z n).size = n * z.size := by simp [Builtin.zeroCells]

/-- A slice at the head of a new row. -/
theorem sl_new (w : World) (C : Array Value) (e : TypeId) (n cap sz : Nat) (hn : n ≤ cap) (hC : cap * sz ≤ C.size) : SlAt (w.drew.alloc (.cells C e)) (some (w.heap.size, 0)) 0 n sz false (.slice (some ⟨w.heap.size, 0, none⟩) n cap) :=
  ⟨_, cap, rfl, hn, by simp, fun _ => ⟨w.heap.size, 0, C, e, (0, 0), rfl, rfl, by
    show ((w.drew.heap).push (Obj.cells C e))[w.heap.size]? = _
    have : w.drew.heap.size = w.heap.size := rfl
    rw [← this, Array.getElem?_push_size], by omega⟩⟩
theorem grownCap_le (w : World) (n c : Nat) (e : TypeId) : n ≤ grownCap w n c e := Nat.le_add_right _ _

/-- A new row with room behind it, as a box. -/
theorem grown_box (hI : Inv base w H β) {e : TypeId} (cs : List AV) (vs rest : List Value) (hv : ∀ (j : Nat) (c : AV), cs[j]? = some c → ∃ y, vs[j]? = some y ∧ y.oneCell' = true ∧ Rep w H β c y) (hl : vs.length = cs.length) (C : Array Value) (hC : C.toList = vs ++ rest) :
    ∃ β', Inv base (w.drew.alloc (.cells C e)) (H ++ [⟨cs, 0, 0, true⟩]) β' ∧ Stp base w H β (w.drew.alloc (.cells C e)) (H ++ [⟨cs, 0, 0, true⟩]) β' ∧ β' H.length = some (w.heap.size, 0) := by
  obtain ⟨i1, i2⟩ := still (w' := w.drew) hI (Wor.drawn w _) (fun _ _ _ => rfl)
  have := newb i1 C e ⟨cs, 0, 0, true⟩ (Nat.zero_le _) (fun j c hj => by
    obtain ⟨y, h1, h2, h3⟩ := hv j c hj
    refine ⟨y, ?_, h2, h3.stp i2⟩
    rw [← Array.getElem?_toList, hC, List.getElem?_append_left (List.getElem?_eq_some_iff.1 h1).1]
    exact h1)
  exact ⟨_, this.1, i2.trans this.2, upd_same _ _ _⟩

theorem flat_chunk (sz : Nat) : ∀ (n : Nat) (cs : List AV), flat (chunk sz n cs) = cs.take (n * sz) := by
  intro n
  induction n with
  | zero => intro cs; simp [chunk, flat]
  | succ n ih =>
    intro cs
    have := ih (cs.drop sz)
    unfold flat at this ⊢
    rw [chunk, List.flatten_cons, this, Nat.add_mul, Nat.one_mul, Nat.add_comm (n * sz) sz, List.take_add]

/-- What append does where it must have a new row. -/
theorem append_new (hI : Inv base w H β) {t t2 ty e : TypeId} {d : TypeDesc} (hu : P.underlying t = some (.slice e)) (hd : P.underlying e = some d) (h2 : notInt P t2 = true) (hz : (zeroCs P e).map List.length = some (P.cellsOf e)) (hb0 : P.bytesOf e ≠ 0)
    {a : Option Addr} {n cap : Nat} {x : Value} {olds vs : List Value} {gs : List (List AV)} (hlen : ∀ w', (Builtin.lenOf x).run P w' = .ok gs.length w')
    (hold : (Builtin.firstCells (P.cellsOf e) n (.slice a n cap)).run P w.drew = .ok olds.toArray w.drew) (hol : olds.length = n * P.cellsOf e)
    (hfc : (Builtin.firstCells (P.cellsOf e) gs.length x).run P w.drew = .ok vs.toArray w.drew) (hvl : vs.length = gs.length * P.cellsOf e) (hg : cap < n + gs.length) (hbd : (n + gs.length) * P.bytesOf e ≤ 140737488355328) :
    ∃ (C : Array Value) (cap' : Nat), (Builtin.append_ #[t, t2] ty #[.slice a n cap, x]).run P w = .ok (.slice (some ⟨w.heap.size, 0, none⟩) (n + gs.length) cap') (w.drew.alloc (.cells C e)) ∧
      (∃ rest, C.toList = (olds ++ vs) ++ rest) ∧ n + gs.length ≤ cap' ∧ cap' * P.cellsOf e ≤ C.size := by
  obtain ⟨i, z, hi, hiz, hsz, hby, hzs⟩ := zero_info hz
  have hle : (n + gs.length) * 1 ≤ (n + gs.length) * P.bytesOf e := Nat.mul_le_mul_left _ (by omega)
  have hgr := run_append_grow' (P := P) (w := w) (ty := ty) (a := a) (n := n) (cap := cap) (olds := olds) (news := vs) hu h2 hi hiz hlen (by rw [hsz]; exact hold) (by rw [hsz]; exact hfc) (by omega) (by omega) (growslice_fits (by omega) (by rw [hby]; exact hbd))
  refine ⟨_, _, hgr, ⟨(Builtin.zeroCells z.cells (grownCap w (n + gs.length) cap e - (n + gs.length))).toList, by simp⟩, grownCap_le _ _ _ _, ?_⟩
  have hgc := grownCap_le w (n + gs.length) cap e
  generalize grownCap w (n + gs.length) cap e = C at hgc
  simp only [Array.size_append, List.size_toArray, zeroCells_size, hol, hvl, hzs]
  rw [← Nat.add_mul, ← Nat.add_mul]
  have : n + gs.length + (C - (n + gs.length)) = C := by omega
  rw [this]
  exact Nat.le_refl _

theorem does_append (hI : Inv base w H β) (hA : ∀ x, Rep w H β (A x) (ρ x)) {t t2 : TypeId} {s x : Operand} (ho : o.op = .call { callee := .builtin .append, args := #[s, x], argTypes := #[t, t2] })
    (h2 : notInt P t2 = true) {r : AV} {H' : List Box} (h : aappend P t H (A s) (A x) = some (r, H')) : Does P ρ o base w H β r H' := by
  have hs := hA s
  have hx := hA x
  have key : ∀ v w', (Builtin.append_ #[t, t2] o.type #[ρ s, ρ x]).run P w = .ok v w' → (execOp ρ o).run P w = .ok (.value v) w' := fun v w' hv => by
    simp [execOp, ho, resolve, invoke, builtin, hv]
  unfold aappend at h
  split at h
  · cases h
  · rename_i e he
    obtain ⟨hu, d, hd⟩ := elemTy_spec he
    split at h
    · cases h
    · rename_i gs hgs
      split at h
      · rename_i hz
        obtain ⟨hz, hb0⟩ := hz
        obtain ⟨hlen, vs, hrows, hfc⟩ := src_run hI hx hgs
        obtain ⟨hvl, hvr⟩ := hrows.flat
        have hfl := flat_length hrows.2.2.1
        have hvl' : vs.length = gs.length * P.cellsOf e := hrows.1
        split at h
        · rename_i hAs
          rw [hAs] at hs
          split at h
          · rename_i hbd
            injection h with h
            injection h with e1 e2
            subst e1; subst e2
            generalize hv : ρ s = v at hs
            cases hs with
            | emp a =>
              by_cases h0 : gs.length = 0
              · have hg0 : gs = [] := List.eq_nil_of_length_eq_zero h0
                subst hg0
                have hvs : vs = [] := List.eq_nil_of_length_eq_zero (by rw [hvl']; simp)
                subst hvs
                have hrun := run_append_none' (P := P) (w := w) (ty := o.type) (a := a) (n := 0) (cap := 0) hu hd h2 (Nat.le_refl 0) hlen (hfc w (fun _ _ _ => rfl))
                obtain ⟨g1, g2⟩ := newv hI 0 0 rfl
                refine ⟨_, w, _, .inl (key _ _ (by rw [hv]; exact hrun)), g1, g2, rep_sl (bx := ⟨[], 0, 0, true⟩) (by simp [flat]) rfl ⟨a, 0, rfl, Nat.le_refl _, fun _ => rfl, fun hh => absurd hh (by omega)⟩⟩
              · obtain ⟨C, cap', r1, ⟨rest, r2⟩, r3, r4⟩ := append_new (w := w) (ty := o.type) (a := a) (n := 0) (cap := 0) (olds := []) hI hu hd h2 hz hb0 hlen (by cases a <;> simp [Builtin.firstCells, loadCells, loadCellsFrom]) (by simp) (hfc _ (fun _ _ _ => rfl)) hvl' (by omega) (by simpa using hbd)
                obtain ⟨β', g1, g2, g3⟩ := grown_box (e := e) hI (flat gs) vs rest hvr hvl C (by simpa using r2)
                rw [Nat.zero_add] at r1 r3
                exact ⟨_, _, β', .inl (key _ _ (by rw [hv]; exact r1)), g1, g2, rep_sl (bx := ⟨flat gs, 0, 0, true⟩) (by simp) rfl (by rw [g3]; exact sl_new w C e _ cap' _ r3 r4)⟩
          · cases h
        · rename_i b g off n sz hAs
          rw [hAs] at hs
          split at h
          · rename_i bx hb
            split at h
            · rename_i hc
              obtain ⟨hg, rfl, hend, hgrow, hbd⟩ := hc
              injection h with h
              injection h with e1 e2
              subst e1; subst e2
              obtain ⟨bx', d1, d2, a, cap, hv, e4, e5, e6⟩ := live_sl (by simp [live, hb, hg]) hs
              rw [hb] at d1
              obtain rfl := Option.some.inj d1
              have hbl : b < H.length := (List.getElem?_eq_some_iff.1 hb).1
              by_cases hfit : n + gs.length ≤ cap
              · by_cases h0 : gs.length = 0
                · have hg0 : gs = [] := List.eq_nil_of_length_eq_zero h0
                  subst hg0
                  have hvs : vs = [] := List.eq_nil_of_length_eq_zero (by rw [hvl']; simp)
                  subst hvs
                  have hrun := run_append_none' (P := P) (w := w) (ty := o.type) (a := a) (n := n) (cap := cap) hu hd h2 e4 hlen (hfc w (fun _ _ _ => rfl))
                  cases hβ : β b with
                  | none =>
                    have hcs := hI.virt b bx hb hβ
                    have hro := hI.ro b bx hb
                    obtain ⟨g1, g2⟩ := replv (bx' := ⟨bx.cells.drop off ++ flat [], bx.ro - off, g + 1, true⟩) hI hb hβ (by simp [hcs, flat]) (by rw [hcs] at hro; simp at hro ⊢; omega) (by simp; omega)
                    refine ⟨_, w, β, .inl (key _ _ (by rw [hv]; exact hrun)), g1, g2, rep_sl (bx := ⟨bx.cells.drop off ++ flat [], bx.ro - off, g + 1, true⟩) (List.getElem?_set_self hbl) rfl ⟨a, cap, rfl, by simpa using e4, by simp, fun hh => ?_⟩⟩
                    obtain ⟨k, st, c, et, fr, f1, _⟩ := e6 hh
                    rw [hβ] at f1; cases f1
                  | some ks =>
                    obtain ⟨k, st⟩ := ks
                    obtain ⟨q1, q2⟩ := hI.real b bx k st hb hβ
                    have hro := hI.ro b bx hb
                    obtain ⟨g1, g2⟩ := repl (w' := w) (bx' := ⟨bx.cells.drop off ++ flat [], bx.ro - off, g + 1, true⟩) (k' := k) (s' := st + off) hI hb (Wor.refl w) (fun _ _ => False) (fun _ _ hh => hh.elim) (fun _ _ _ _ => rfl) ⟨q1, q2⟩
                      (by simp [flat]; omega) (.inr ⟨st, hβ, by simp; omega, by omega, fun _ => hgrow, .inl hgrow⟩) (by simp; omega) (by simp; omega) (fun hh => by omega) (fun j c hj => by
                        simp only [flat, List.flatten_nil, List.append_nil, List.getElem?_drop] at hj
                        obtain ⟨y, y1, y2, y3⟩ := hI.cells b bx k st hb hβ _ c hj
                        exact ⟨y, by rw [Nat.add_assoc]; exact y1, y2, y3⟩)
                    refine ⟨_, w, _, .inl (key _ _ (by rw [hv]; exact hrun)), g1, g2, rep_sl (bx := ⟨bx.cells.drop off ++ flat [], bx.ro - off, g + 1, true⟩) (List.getElem?_set_self hbl) rfl ⟨a, cap, rfl, by simpa using e4, by simp, fun hh => ?_⟩⟩
                    obtain ⟨k', st', c, et, fr, f1, f2, f3, f4⟩ := e6 hh
                    rw [hβ] at f1
                    injection f1 with f1
                    injection f1 with f5 f6
                    subst f5; subst f6
                    exact ⟨k, st + off, c, et, fr, by rw [upd_same], by simpa using f2, f3, by omega⟩
                · obtain ⟨k, st, c, et, fr, f1, f2, f3, f4⟩ := e6 (by omega)
                  subst f2
                  obtain ⟨q1, q2⟩ := hI.real b bx k st hb f1
                  have hro := hI.ro b bx hb
                  have hcapm : (n + gs.length) * P.cellsOf e ≤ cap * P.cellsOf e := Nat.mul_le_mul_right _ hfit
                  rw [Nat.add_mul] at hcapm
                  have hex : ∀ j, j < vs.length → (w.cell? ⟨k, st + off + n * P.cellsOf e + j, none⟩).isSome = true := fun j hj => by
                    unfold World.cell?
                    dsimp only
                    rw [f3]
                    simp
                    omega
                  have hfree : ∀ j, j < vs.length → w.frozen? ⟨k, st + off + n * P.cellsOf e + j, none⟩ = false := fun j hj => hI.free _ _ ⟨b, bx, st, hb, f1, by omega, .inl hgrow⟩
                  have hst := run_storeCells' (P := P) vs w k (st + off + n * P.cellsOf e) 0 hrows.2.1 (by simpa using hex) (by simpa using hfree)
                  have hrun := run_append_fits' (P := P) (w := w) (ty := o.type) (k := k) (s := st + off) (n := n) (cap := cap) hu hd h2 hlen (hfc w (fun _ _ _ => rfl)) hfit hst
                  simp only [Nat.add_zero] at hrun
                  have hW := Wor.stor vs w k (st + off + n * P.cellsOf e)
                  obtain ⟨g1, g2⟩ := repl (w' := stor w k (st + off + n * P.cellsOf e) vs) (bx' := ⟨bx.cells.drop off ++ flat gs, bx.ro - off, g + 1, true⟩) (k' := k) (s' := st + off) hI hb hW
                    (fun k' x => k' = k ∧ st + off + n * P.cellsOf e ≤ x ∧ x < st + off + n * P.cellsOf e + vs.length) (fun k' x ⟨ee, a1, a2⟩ => by subst ee; exact ⟨st, f1, by omega, .inl hgrow⟩)
                    (fun k' x hk hn => by rw [stor_cell vs w k _ k' x hex, if_neg (by simpa [and_assoc] using hn)])
                    ⟨q1, Nat.lt_of_lt_of_le q2 hW.size⟩ (by simp; omega) (.inr ⟨st, f1, by simp; omega, by omega, fun _ => hgrow, .inl hgrow⟩) (by simp; omega) (by simp; omega) (fun hh => by omega) (fun j c hj => by
                      rw [stor_cell vs w k _ k _ hex]
                      dsimp only at hj
                      have hdl : (bx.cells.drop off).length = n * P.cellsOf e := by simp; omega
                      by_cases hjn : j < n * P.cellsOf e
                      · rw [List.getElem?_append_left (by omega), List.getElem?_drop] at hj
                        rw [if_neg (by omega)]
                        obtain ⟨y, y1, y2, y3⟩ := hI.cells b bx k st hb f1 _ c hj
                        exact ⟨y, by rw [Nat.add_assoc]; exact y1, y2, y3⟩
                      · rw [List.getElem?_append_right (by omega), hdl] at hj
                        obtain ⟨y, y1, y2, y3⟩ := hvr _ c hj
                        have hjl := (List.getElem?_eq_some_iff.1 y1).1
                        rw [if_pos (by omega)]
                        refine ⟨y, ?_, y2, y3⟩
                        rw [← y1]
                        congr 1
                        omega)
                  obtain ⟨c', f5, f6⟩ := hW.shape k c et fr f3
                  refine ⟨_, _, _, .inl (key _ _ (by rw [hv]; exact hrun)), g1, g2, rep_sl (bx := ⟨bx.cells.drop off ++ flat gs, bx.ro - off, g + 1, true⟩) (List.getElem?_set_self hbl) rfl ⟨_, cap, rfl, hfit, by simp, fun hh => ?_⟩⟩
                  exact ⟨k, st + off, c', et, fr, by rw [upd_same], rfl, f5, by omega⟩
              · have holds : asrc (P.cellsOf e) H (.sl b g off n (P.cellsOf e) false) = some (chunk (P.cellsOf e) n (bx.cells.drop off)) := by simp only [asrc, hb]; rw [if_pos ⟨hg, by simp, by omega⟩]
                obtain ⟨_, os, hor, hofc⟩ := src_run (P := P) hI hs holds
                obtain ⟨hol, hov⟩ := hor.flat
                have hol' := hor.1
                rw [chunk_length] at hol' hofc
                rw [hv] at hofc
                obtain ⟨C, cap', r1, ⟨rest, r2⟩, r3, r4⟩ := append_new (w := w) (ty := o.type) (a := a) (n := n) (cap := cap) (olds := os) hI hu hd h2 hz hb0 hlen (hofc _ (fun _ _ _ => rfl)) hol' (hfc _ (fun _ _ _ => rfl)) hvl' (by omega) hbd
                have hW : Wor w (w.drew.alloc (.cells C e)) := (Wor.drawn w _).trans (Wor.alloc w.drew _)
                have hsize : (w.drew.alloc (.cells C e)).heap.size = w.heap.size + 1 := by
                  show (w.heap.push (Obj.cells C e)).size = _
                  simp
                have hdl : (bx.cells.drop off).length = n * P.cellsOf e := by simp; omega
                have hro := hI.ro b bx hb
                obtain ⟨g1, g2⟩ := repl (w' := w.drew.alloc (.cells C e)) (bx' := ⟨bx.cells.drop off ++ flat gs, bx.ro - off, g + 1, true⟩) (k' := w.heap.size) (s' := 0) hI hb hW (fun _ _ => False) (fun _ _ hh => hh.elim)
                  (fun k x hk _ => alloc_cell w.drew _ k x hk) ⟨hI.bse.le, by omega⟩ (by simp; omega) (.inl (Nat.le_refl _)) (by simp; omega) (by simp; omega) (fun _ x => alloc_new_frozen w.drew C e x) (fun j c hj => by
                    dsimp only at hj
                    have hcell := alloc_new w.drew C e (0, 0) (0 + j)
                    rw [Nat.zero_add] at hcell ⊢
                    have hcell' : (w.drew.alloc (.cells C e)).cell? ⟨w.heap.size, j, none⟩ = (os ++ vs ++ rest)[j]? := by rw [← r2, Array.getElem?_toList]; exact hcell
                    rw [hcell']
                    by_cases hjn : j < n * P.cellsOf e
                    · rw [List.getElem?_append_left (by omega)] at hj
                      obtain ⟨k1, s1, c1, et1, fr1, f1, f2, f3, f4⟩ := e6 (by
                        rcases Nat.eq_zero_or_pos cap with hc0 | hc0
                        · have : n = 0 := by omega
                          subst this; simp at hjn
                        · exact hc0)
                      have hq : (VL.flat (chunk (P.cellsOf e) n (bx.cells.drop off)))[j]? = some c := by
                        have : VL.flat (chunk (P.cellsOf e) n (bx.cells.drop off)) = bx.cells.drop off := by rw [flat_chunk, List.take_of_length_le (by omega)]
                        rw [this]; exact hj
                      obtain ⟨y, y1, y2, y3⟩ := hov j c hq
                      refine ⟨y, ?_, y2, y3⟩
                      rw [List.append_assoc, List.getElem?_append_left (by omega)]
                      exact y1
                    · rw [List.getElem?_append_right (by omega), hdl] at hj
                      obtain ⟨y, y1, y2, y3⟩ := hvr _ c hj
                      have hjl := (List.getElem?_eq_some_iff.1 y1).1
                      refine ⟨y, ?_, y2, y3⟩
                      rw [List.append_assoc, List.getElem?_append_right (by omega), List.getElem?_append_left (by omega), hol']
                      exact y1)
                refine ⟨_, _, _, .inl (key _ _ (by rw [hv]; exact r1)), g1, g2, rep_sl (bx := ⟨bx.cells.drop off ++ flat gs, bx.ro - off, g + 1, true⟩) (List.getElem?_set_self hbl) rfl (by rw [upd_same]; exact sl_new w C e _ cap' _ r3 r4)⟩
            · cases h
          · cases h
        · rename_i b g off n sz hAs
          rw [hAs] at hs
          split at h
          · rename_i bx hb
            split at h
            · rename_i hc
              obtain ⟨hg, rfl, hend, hpos, hbd⟩ := hc
              injection h with h
              injection h with e1 e2
              subst e1; subst e2
              obtain ⟨bx', d1, d2, a, cap, hv, e4, e5, e6⟩ := live_sl (by simp [live, hb, hg]) hs
              rw [hb] at d1
              obtain rfl := Option.some.inj d1
              have hcap := e5 rfl
              have holds : asrc (P.cellsOf e) H (.sl b g off n (P.cellsOf e) true) = some (chunk (P.cellsOf e) n (bx.cells.drop off)) := by simp only [asrc, hb]; rw [if_pos ⟨hg, by simp, by omega⟩]
              obtain ⟨_, os, hor, hofc⟩ := src_run (P := P) hI hs holds
              obtain ⟨hol, hov⟩ := hor.flat
              have hol' := hor.1
              rw [chunk_length] at hol' hofc
              rw [hv] at hofc
              obtain ⟨C, cap', r1, ⟨rest, r2⟩, r3, r4⟩ := append_new (w := w) (ty := o.type) (a := a) (n := n) (cap := cap) (olds := os) hI hu hd h2 hz hb0 hlen (hofc _ (fun _ _ _ => rfl)) hol' (hfc _ (fun _ _ _ => rfl)) hvl' (by omega) hbd
              have hfc' : VL.flat (chunk (P.cellsOf e) n (bx.cells.drop off)) = (bx.cells.drop off).take (n * P.cellsOf e) := flat_chunk _ _ _
              rw [hfc'] at hol hov
              obtain ⟨β', g1, g2, g3⟩ := grown_box (e := e) hI ((bx.cells.drop off).take (n * P.cellsOf e) ++ flat gs) (os ++ vs) rest (fun j c hj => by
                by_cases hjn : j < n * P.cellsOf e
                · rw [List.getElem?_append_left (by omega)] at hj
                  obtain ⟨y, y1, y2, y3⟩ := hov j c hj
                  exact ⟨y, by rw [List.getElem?_append_left (by omega)]; exact y1, y2, y3⟩
                · rw [List.getElem?_append_right (by omega), ← hol, hol'] at hj
                  obtain ⟨y, y1, y2, y3⟩ := hvr _ c hj
                  exact ⟨y, by rw [List.getElem?_append_right (by omega), hol']; exact y1, y2, y3⟩) (by simp only [List.length_append]; omega) C r2
              exact ⟨_, _, β', .inl (key _ _ (by rw [hv]; exact r1)), g1, g2, rep_sl (bx := ⟨(bx.cells.drop off).take (n * P.cellsOf e) ++ flat gs, 0, 0, true⟩) (by simp) rfl (by rw [g3]; exact sl_new w C e _ cap' _ r3 r4)⟩
            · cases h
          · cases h
        · cases h
      · cases h

end ops
end Go.Proofs.YtjkdahpoalnjjaaDoor.VL

/- The value logic, part 7: copy, make, closures. -/
set_option linter.unusedVariables false
set_option linter.unusedSimpArgs false
namespace Go.Proofs.YtjkdahpoalnjjaaDoor.VL
open Go Go.RowKit Go.Lib

section ops
variable {P : Program} {ρ : Operand → Value} {A : Operand → AV} {o : Oper} {base : Nat} {w : World} {H : List Box} {β : Pl}

theorem fc_len (sz m n1 n2 c1 c2 : Nat) (a : Option Addr) : Builtin.firstCells sz m (.slice a n1 c1) = Builtin.firstCells sz m (.slice a n2 c2) := by cases a <;> rfl

/-- The first rows of what is read. -/
theorem src_take {x : AV} {v : Value} {sz m : Nat} {gs : List (List AV)} (hI : Inv base w H β) (hx : Rep w H β x v) (h : asrc sz H x = some gs) (hm : m ≤ gs.length) :
    ∃ vs, Rows' w H β sz (gs.take m) vs ∧ (Builtin.firstCells sz m v).run P w = .ok vs.toArray w := by
  unfold asrc at h
  split at h
  · rename_i s gs'
    split at h
    · rename_i hs
      subst hs
      injection h with h
      subst h
      obtain ⟨a, cap, rfl⟩ : ∃ a cap, v = .slice a gs'.length cap := by
        cases hx with
        | lst0 _ a cap => exact ⟨a, cap, by simp⟩
        | lst _ _ k s cap y hn hg hc hr => exact ⟨_, cap, rfl⟩
      have hp := rep_lst_part hx (Nat.zero_le m) hm cap (by omega)
      simp only [List.drop_zero, Nat.sub_zero, Nat.zero_mul] at hp
      obtain ⟨_, vs, h1, h2⟩ := src_run (P := P) (sz := s) (gs := gs'.take m) hI hp (by simp [asrc])
      refine ⟨vs, h1, ?_⟩
      have hl : (gs'.take m).length = m := by simp; omega
      rw [hl] at h2
      have := h2 w (fun _ _ _ => rfl)
      rw [fc_len s m gs'.length m cap cap a]
      cases a with
      | none => simpa using this
      | some a =>
        by_cases h0 : cap = 0
        · rw [if_pos h0] at this; exact this
        · rw [if_neg h0] at this
          simpa [Addr.add] using this
    · cases h
  · injection h with h
    subst h
    obtain rfl : m = 0 := by simpa using hm
    obtain ⟨_, vs, h1, h2⟩ := src_run (P := P) (sz := sz) hI hx rfl
    exact ⟨vs, by simpa using h1, h2 w (fun _ _ _ => rfl)⟩
  · rename_i b g off n s full
    split at h
    · rename_i bx hb
      split at h
      · rename_i hc
        obtain ⟨hg, rfl, hfit⟩ := hc
        injection h with h
        subst h
        rw [chunk_length] at hm
        obtain ⟨bx', e1, e2, a, cap, rfl, e4, e5, e6⟩ := live_sl (by simp [live, hb, hg]) hx
        rw [hb] at e1
        obtain rfl := Option.some.inj e1
        have hp : Rep w H β (.sl b g off m s false) (.slice a m cap) := rep_sl hb hg ⟨a, cap, rfl, by omega, by simp, e6⟩
        have hle : m * s ≤ n * s := Nat.mul_le_mul_right _ hm
        obtain ⟨_, vs, h1, h2⟩ := src_run (P := P) (sz := s) (gs := chunk s m (bx.cells.drop off)) hI hp (by simp only [asrc, hb]; rw [if_pos ⟨hg, by simp, by omega⟩])
        rw [chunk_length] at h2
        have htake : ∀ (n m : Nat) (cs : List AV), m ≤ n → (chunk s n cs).take m = chunk s m cs := by
          intro n
          induction n with
          | zero => intro m cs h; obtain rfl : m = 0 := by omega
                    rfl
          | succ n ih =>
            intro m cs h
            cases m with
            | zero => rfl
            | succ m => simp only [chunk, List.take_succ_cons, ih m _ (by omega)]
        refine ⟨vs, by rw [htake n m _ hm]; exact h1, ?_⟩
        have := h2 w (fun _ _ _ => rfl)
        cases a <;> exact this
      · cases h
    · cases h
  · rename_i s
    split at h
    · rename_i hsz
      subst hsz
      injection h with h
      subst h
      cases hx
      have hms : m ≤ s.size := by simpa [bytesG] using hm
      obtain ⟨_, vs, h1, h2⟩ := src_run (P := P) (sz := 1) (x := .v (.string (s.extract 0 m))) hI (.v _) rfl
      have hd : (s.extract 0 m).data.toList = s.data.toList.take m := by simp
      have hl : (bytesG (s.extract 0 m).data.toList).length = m := by simp [bytesG]; omega
      rw [hl] at h2
      refine ⟨vs, ?_, ?_⟩
      · rw [hd] at h1
        simpa [bytesG, List.map_take] using h1
      · have := h2 w (fun _ _ _ => rfl)
        have he : (s.extract 0 m).extract 0 m = s.extract 0 m := by
          apply ByteArray.ext
          simp [ByteArray.data_extract]
        simp only [Builtin.firstCells, he] at this ⊢
        exact this
    · cases h
  · cases h

def acopy (P : Program) (t : TypeId) (H : List Box) (d x : AV) : Option (AV × List Box) :=
  match elemTy P t, d with
  | some e, .sl b g off n sz _ => match H[b]?, asrc sz H x with
    | some bx, some gs =>
      if bx.gen = g ∧ sz = P.cellsOf e ∧ off + n * sz ≤ bx.cells.length ∧ bx.ro ≤ off then
        some (.v (.int .i64 ((min gs.length n : Nat) : Int)), H.set b { bx with cells := splice bx.cells off (flat (gs.take (min gs.length n))) }) else none
    | _, _ => none
  | _, _ => none

theorem does_copy (hI : Inv base w H β) (hA : ∀ x, Rep w H β (A x) (ρ x)) {t t2 : TypeId} {s x : Operand} (ho : o.op = .call { callee := .builtin .copy, args := #[s, x], argTypes := #[t, t2] })
    {r : AV} {H' : List Box} (h : acopy P t H (A s) (A x) = some (r, H')) : Does P ρ o base w H β r H' := by
  have hs := hA s
  have hx := hA x
  have key : ∀ v w', (Builtin.copy_ #[t, t2] o.type #[ρ s, ρ x]).run P w = .ok v w' → (execOp ρ o).run P w = .ok (.value v) w' := fun v w' hv => by
    simp [execOp, ho, resolve, invoke, builtin, hv]
  unfold acopy at h
  split at h
  · rename_i e b g off n sz full he hAs
    obtain ⟨hu, d, hd⟩ := elemTy_spec he
    rw [hAs] at hs
    split at h
    · rename_i bx gs hb hgs
      split at h
      · rename_i hc
        obtain ⟨hg, hsz, hfit, hro⟩ := hc
        injection h with h
        injection h with e1 e2
        subst e1; subst e2
        obtain ⟨bx', d1, d2, a, cap, hv, e4, e5, e6⟩ := live_sl (by simp [live, hb, hg]) hs
        rw [hb] at d1
        obtain rfl := Option.some.inj d1
        obtain ⟨hlen, _⟩ := src_run (P := P) hI hx hgs
        obtain ⟨vs, h1, h2⟩ := src_take (P := P) hI hx hgs (Nat.min_le_left gs.length n)
        obtain ⟨f1, f2⟩ := h1.flat
        have hvl := h1.1
        have hln : (gs.take (min gs.length n)).length = min gs.length n := by simp
        rw [hln] at hvl
        have hmn : min gs.length n ≤ n := Nat.min_le_right _ _
        have hmul : min gs.length n * sz ≤ n * sz := Nat.mul_le_mul_right _ hmn
        by_cases h0 : min gs.length n = 0
        · have hvs : vs = [] := List.eq_nil_of_length_eq_zero (by rw [hvl, h0]; simp)
          subst hvs
          have hfl : flat (gs.take (min gs.length n)) = [] := List.eq_nil_of_length_eq_zero (by rw [← f1]; rfl)
          rw [hfl]
          have hset : H.set b { bx with cells := splice bx.cells off [] } = H := by
            simp only [splice]
            apply List.ext_getElem?
            intro i
            by_cases hi : i = b
            · subst hi
              rw [List.getElem?_set_self (List.getElem?_eq_some_iff.1 hb).1, hb]
            · rw [List.getElem?_set_ne (Ne.symm hi)]
          rw [hset]
          refine .same hI (v := .int .i64 ((min gs.length n : Nat) : Int)) (key _ _ ?_) (.v _)
          rw [hv]
          rw [h0] at h2 ⊢
          have hs0 : P.cellsOf e = sz := hsz.symm
          cases a <;> simp [Builtin.copy_, run_underlying hu, hlen, run_sizeOf' hd, hs0, h0, h2, storeCells, goInt]
        · obtain ⟨k, st, c, et, fr, f3, f4, f5, f6⟩ := e6 (by omega)
          subst f4
          obtain ⟨r1, r2, r3⟩ := write_box (P := P) (o' := off) hI hb f3 (flat (gs.take (min gs.length n))) vs f1 (fun i d y hd hy => by
            obtain ⟨y', y1, y2, y3⟩ := f2 i d hd
            rw [hy] at y1
            obtain rfl := Option.some.inj y1
            exact y3) h1.2.1 hro (by omega)
          refine ⟨.int .i64 ((min gs.length n : Nat) : Int), _, β, .inl (key _ _ ?_), r2, r3, .v _⟩
          rw [hv]
          have hs0 : P.cellsOf e = sz := hsz.symm
          simp [Builtin.copy_, run_underlying hu, hlen, run_sizeOf' hd, hs0, h2, r1, goInt]
      · cases h
    · cases h
  · cases h

def amake (P : Program) (t : TypeId) (H : List Box) (l c : AV) : Option (AV × List Box) :=
  match elemTy P t, l, c with
  | some e, .v (.int _ l), .v (.int _ c) => match zeroCs P e with
    | some z => if 0 ≤ l ∧ l ≤ c ∧ c * P.bytesOf e ≤ 140737488355328 ∧ c ≤ 140737488355328 ∧ z.length = P.cellsOf e then
        some (.sl H.length 0 0 l.toNat (P.cellsOf e) (decide (l = c)), H ++ [⟨flat (List.replicate l.toNat z), 0, 0, true⟩]) else none
    | none => none
  | _, _, _ => none

theorem zero_full {e : TypeId} {z : List AV} (h : zeroCs P e = some z) : ∃ i z', P.info? e = some i ∧ i.zero = some z' ∧ i.size = P.cellsOf e ∧ i.bytes = P.bytesOf e ∧ z = z'.cells.toList.map zcell ∧ ∀ (i : Nat) (y : Value), z'.cells[i]? = some y → y.oneCell' = true := by
  unfold zeroCs at h
  obtain ⟨z', h1, h2⟩ := Option.bind_eq_some_iff.1 h
  obtain ⟨i, h3, h4⟩ := Option.bind_eq_some_iff.1 h1
  split at h2
  · rename_i hall
    injection h2 with h2
    exact ⟨i, z', h3, h4, by simp [Program.cellsOf, h3], by simp [Program.bytesOf, h3], h2.symm, fun i y hy => List.all_eq_true.1 hall y (by
      rw [← Array.getElem?_toList] at hy
      exact List.mem_of_getElem? hy)⟩
  · cases h2
theorem does_make (hI : Inv base w H β) (hA : ∀ x, Rep w H β (A x) (ρ x)) {t : TypeId} {l c : Operand} (ho : o.op = .makeSlice t l c) {r : AV} {H' : List Box} (h : amake P t H (A l) (A c) = some (r, H')) : Does P ρ o base w H β r H' := by
  have hl := hA l
  have hc := hA c
  unfold amake at h
  split at h
  · rename_i e lk li ck ci he hAl hAc
    obtain ⟨hu, d, hd⟩ := elemTy_spec he
    rw [hAl] at hl
    rw [hAc] at hc
    split at h
    · rename_i z hz
      split at h
      · rename_i hcond
        obtain ⟨h0, hlc, hbd, hc47, hzl⟩ := hcond
        injection h with h
        injection h with e1 e2
        subst e1; subst e2
        generalize hvl : ρ l = vl at hl
        generalize hvc : ρ c = vc at hc
        cases hl
        cases hc
        obtain ⟨i0, zv, hi, hiz, hsz, hby, z2, z3⟩ := zero_full hz
        obtain ⟨ln, rfl⟩ := Int.eq_ofNat_of_zero_le h0
        obtain ⟨cn, rfl⟩ := Int.eq_ofNat_of_zero_le (Int.le_trans h0 hlc)
        have hzsz : zv.cells.size = P.cellsOf e := by
          have := congrArg List.length z2
          simp at this
          omega
        have hrun := run_make (P := P) w t e i0 zv hu hi hiz lk ck ln cn (by omega) hlc (by rw [hby, Int.mul_comm]; omega) (by omega)
        rw [Int.toNat_natCast, Int.toNat_natCast, hsz] at hrun
        obtain ⟨C, hC⟩ : ∃ C, C = madeCells zv.cells (cn * P.cellsOf e) := ⟨_, rfl⟩
        rw [← hC] at hrun
        have hCsz : C.size = cn * P.cellsOf e := by rw [hC, size_madeCells]
        have hln : ln ≤ cn := by omega
        have hmul : ln * P.cellsOf e ≤ cn * P.cellsOf e := Nat.mul_le_mul_right _ hln
        have hrep : ∀ (i : Nat) (g : List AV), (List.replicate ln z)[i]? = some g → g.length = P.cellsOf e := fun i g hg => by
          rw [List.getElem?_replicate] at hg
          split at hg
          · injection hg with hg; rw [← hg]; exact hzl
          · cases hg
        have hfl := flat_length hrep
        simp only [List.length_replicate] at hfl
        obtain ⟨g1, g2⟩ := newb hI C e ⟨flat (List.replicate ln z), 0, 0, true⟩ (Nat.zero_le _) (fun j c hj => by
          obtain ⟨i, k, g, q1, q2, rfl⟩ := flat_get hrep j c hj
          rw [List.getElem?_replicate] at q1
          split at q1
          · rename_i hil
            injection q1 with q1
            subst q1
            have hkl := (List.getElem?_eq_some_iff.1 q2).1
            have hlt : i * P.cellsOf e + k < cn * P.cellsOf e := by
              have : (i + 1) * P.cellsOf e ≤ cn * P.cellsOf e := Nat.mul_le_mul_right _ (by omega)
              rw [Nat.add_mul] at this
              omega
            have hmod : (i * P.cellsOf e + k) % zv.cells.size = k := by rw [hzsz, Nat.mul_comm, Nat.mul_add_mod]; exact Nat.mod_eq_of_lt (by omega)
            have hk : k < zv.cells.size := by omega
            have hCk : C[i * P.cellsOf e + k]? = some zv.cells[k] := by
              rw [hC, madeCells, Array.getElem?_map, Array.getElem?_range, if_pos hlt, Option.map_some, hmod, getElem!_pos zv.cells k hk]
            refine ⟨zv.cells[k], hCk, z3 k _ (Array.getElem?_eq_getElem hk), ?_⟩
            rw [z2] at q2
            simp only [List.getElem?_map, Array.getElem?_toList, Array.getElem?_eq_getElem hk, Option.map_some, Option.some.injEq] at q2
            rw [← q2]
            exact rep_zcell _
          · cases q1)
        refine ⟨.slice (some ⟨w.heap.size, 0, none⟩) ln cn, _, _, .inl ?_, g1, g2, rep_sl (bx := ⟨flat (List.replicate ln z), 0, 0, true⟩) (by simp) rfl ⟨_, cn, rfl, hln, fun hf => by simp at hf; omega, fun hh => ⟨w.heap.size, 0, C, e, (0, 0), upd_same _ _ _, rfl, ?_, ?_⟩⟩⟩
        · simp only [execOp, ho, hvl, hvc, Sem.run_bind, hrun, Result.andThen_ok, Sem.run_pure]
        · show (w.heap.push (Obj.cells C e))[w.heap.size]? = _
          rw [Array.getElem?_push_size]
        · rw [hCsz]; omega
      · cases h
    · cases h
  · cases h

def acaps (A : Operand → AV) (cs : Array Operand) : List AV := cs.toList.map A
theorem does_makeFunc (hI : Inv base w H β) (hA : ∀ x, Rep w H β (A x) (ρ x)) {f : FuncId} {cs : Array Operand} (ho : o.op = .makeFunc (.func f) #[] cs) : Does P ρ o base w H β (.fn f (acaps A cs)) H := by
  refine .same hI (v := .func (.func f) #[] (cs.map ρ)) (by simp [execOp, ho, Instr.makeFunc]) (.fn f _ _ (by simp [acaps]) fun i c x h1 h2 => ?_)
  simp only [acaps, List.getElem?_map] at h1
  rw [Array.getElem?_map] at h2
  cases hq : cs[i]? with
  | none => rw [hq] at h2; cases h2
  | some y =>
    rw [hq] at h2
    rw [Array.getElem?_toList, hq] at h1
    simp only [Option.map_some, Option.some.injEq] at h1 h2
    subst h1; subst h2
    exact hA y

end ops
end Go.Proofs.YtjkdahpoalnjjaaDoor.VL

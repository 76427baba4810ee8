/- The value logic, part 1: abstract values, boxes, what a world represents, and what each step keeps. -/
import Derived.Tactics
import Derived.Still
import Derived.Below
import Derived.Deep.Draws
import Derived.Laws.AppendOwn
namespace Go.Proofs.YtnlmdeeadldgmaaGreatDoor.VL
open Go Go.RowKit

/-- Abstract values. 'v': a value that names no memory; 'agg': a struct's or an array's cells; 'lst': a slice that is only read (its elements, each a list of cells); 'sl': a slice over box b (as it is at generation g), from cell o on, n elements of sz cells; 'ptr': a pointer to a cell of a box; 'elt': a pointer to a cell of a row of cells that are only read; 'bself': the address that a strings.Builder keeps of itself, if any; 'bs': a slice over all of box b, whose block is one of elements of type e; 'bp': a pointer to its first element (to anything, where it has none); 'fn': a closure; 'emp': an empty slice without room; 'lit': a literal's row in a block from n on, that no box knows; 'mp': a map that nobody writes any more. -/
inductive AV where
  | v (x : Value)
  | agg (cs : List AV)
  | tup (vs : List AV)
  | lst (sz : Nat) (gs : List (List AV))
  | sl (b g o n sz : Nat) (full : Bool)
  | ptr (b g o : Nat)
  | elt (g : List AV) (j : Nat)
  | bself (b g : Nat) (e : TypeId)
  | bs (b g n : Nat) (e : TypeId)
  | bp (b g n : Nat) (e : TypeId)
  | fn (f : FuncId) (caps : List AV)
  | emp
  | lit (n sz : Nat) (gs : List (List AV))
  | mp (es : Array MapEntry)
  | dead

/-- A piece of memory that is owned: what its cells hold, how many of them are only read from now on, its generation, whether the spare cells behind it are owned too. -/
structure Box where
  cells : List AV
  ro : Nat
  gen : Nat
  grow : Bool

abbrev Pl := Nat → Option (Nat × Nat)

/-- The cells that may be written. -/
def Wr (H : List Box) (β : Pl) (k x : Nat) : Prop :=
  ∃ (i : Nat) (bx : Box) (s : Nat), H[i]? = some bx ∧ β i = some (k, s) ∧ s + bx.ro ≤ x ∧ (bx.grow = true ∨ x < s + bx.cells.length)

def SlAt (w : World) (loc : Option (Nat × Nat)) (o n sz : Nat) (full : Bool) (x : Value) : Prop :=
  ∃ (a : Option Addr) (cap : Nat), x = .slice a n cap ∧ n ≤ cap ∧ (full = true → cap = n) ∧
    (0 < cap → ∃ (k s : Nat) (c : Array Value) (e : TypeId) (fr : Nat × Nat), loc = some (k, s) ∧ a = some ⟨k, s + o, none⟩ ∧ w.heap[k]? = some (.cells c e fr) ∧ s + o + cap * sz ≤ c.size)

/-- What is frozen of a block lies in it. -/
def okFr (fr : Nat × Nat) (n : Nat) : Prop := fr.1 ≤ fr.2 ∧ fr.2 ≤ n
/-- A value of the model is what an abstract one says. -/
inductive Rep (w : World) (H : List Box) (β : Pl) : AV → Value → Prop
  | v (x : Value) : Rep w H β (.v x) x
  | dead (x : Value) : Rep w H β .dead x
  | emp (a : Option Addr) : Rep w H β .emp (.slice a 0 0)
  | mp (es : Array MapEntry) (k clock : Nat) (h : w.heap[k]? = some (.map es clock)) : Rep w H β (.mp es) (.map (some k))
  | lit (n sz : Nat) (gs : List (List AV)) (v : Value) (h : Rep w H β (.lst sz gs) v) (hk : ∃ k s m cap, v = .slice (some ⟨k, s, none⟩) m cap ∧ n ≤ k ∧ k < w.heap.size ∧ ∀ y, ¬ Wr H β k y) : Rep w H β (.lit n sz gs) v
  | agg (cs : List AV) (vs : Array Value) (hl : cs.length = vs.size) (h : ∀ (i : Nat) (c : AV) (x : Value), cs[i]? = some c → vs[i]? = some x → Rep w H β c x) : Rep w H β (.agg cs) (.agg vs)
  | tup (cs : List AV) (vs : Array Value) (hl : cs.length = vs.size) (h : ∀ (i : Nat) (c : AV) (x : Value), cs[i]? = some c → vs[i]? = some x → Rep w H β c x) : Rep w H β (.tup cs) (.tuple vs)
  | lst0 (sz : Nat) (a : Option Addr) (cap : Nat) : Rep w H β (.lst sz []) (.slice a 0 cap)
  | lst (sz : Nat) (gs : List (List AV)) (k s cap : Nat) (x : Nat → Nat → Value) (hn : gs.length ≤ cap)
      (hg : ∀ (i : Nat) (g : List AV), gs[i]? = some g → g.length = sz)
      (hc : ∀ (i j : Nat) (g : List AV) (c : AV), gs[i]? = some g → g[j]? = some c → w.cell? ⟨k, s + i * sz + j, none⟩ = some (x i j) ∧ (x i j).oneCell' = true ∧ ¬ Wr H β k (s + i * sz + j))
      (h : ∀ (i j : Nat) (g : List AV) (c : AV), gs[i]? = some g → g[j]? = some c → Rep w H β c (x i j)) :
      Rep w H β (.lst sz gs) (.slice (some ⟨k, s, none⟩) gs.length cap)
  | sl (b g o n sz : Nat) (full : Bool) (x : Value) (bx : Box) (hb : H[b]? = some bx) (hg : g ≤ bx.gen) (hx : ∃ a m cap, x = .slice a m cap) (h : bx.gen = g → SlAt w (β b) o n sz full x) : Rep w H β (.sl b g o n sz full) x
  | ptr (b g o : Nat) (x : Value) (bx : Box) (hb : H[b]? = some bx) (hg : g ≤ bx.gen) (hx : ∃ a, x = .pointer a) (h : bx.gen = g → ∃ k s, β b = some (k, s) ∧ x = .pointer (some ⟨k, s + o, none⟩)) : Rep w H β (.ptr b g o) x
  | bself (b g : Nat) (e : TypeId) (x : Value) (bx : Box) (hb : H[b]? = some bx) (hg : g ≤ bx.gen) (hx : ∃ a, x = .pointer a) (h : bx.gen = g → ∃ k c fr, β b = some (k, 0) ∧ (x = .pointer none ∨ x = .pointer (some ⟨k, 0, none⟩)) ∧ w.heap[k]? = some (.cells c e fr) ∧ c.size = 2) : Rep w H β (.bself b g e) x
  | bs (b g n : Nat) (e : TypeId) (x : Value) (bx : Box) (hb : H[b]? = some bx) (hg : g ≤ bx.gen) (hx : ∃ a m cap, x = .slice a m cap ∧ (a = none ∨ 0 < cap)) (h : bx.gen = g → SlAt w (β b) 0 n 1 false x)
      (ht : ∀ a m cap, x = .slice a m cap → 0 < cap → ∃ (k : Nat) (c : Array Value) (fr : Nat × Nat), a = some ⟨k, 0, none⟩ ∧ w.heap[k]? = some (.cells c e fr) ∧ ((∃ y, Wr H β k y) → okFr fr c.size)) : Rep w H β (.bs b g n e) x
  | bp (b g n : Nat) (e : TypeId) (x : Value) (hx : ∃ a, x = .pointer a) (h : 0 < n → ∃ bx, H[b]? = some bx ∧ g ≤ bx.gen ∧ (bx.gen = g → ∃ (k : Nat) (c : Array Value) (fr : Nat × Nat), β b = some (k, 0) ∧ x = .pointer (some ⟨k, 0, none⟩) ∧ w.heap[k]? = some (.cells c e fr) ∧ ((∃ y, Wr H β k y) → okFr fr c.size) ∧ n ≤ c.size)) : Rep w H β (.bp b g n e) x
  | elt (g : List AV) (j : Nat) (k s : Nat) (x : Nat → Value)
      (hc : ∀ (j : Nat) (c : AV), g[j]? = some c → w.cell? ⟨k, s + j, none⟩ = some (x j) ∧ (x j).oneCell' = true ∧ ¬ Wr H β k (s + j))
      (h : ∀ (j : Nat) (c : AV), g[j]? = some c → Rep w H β c (x j)) :
      Rep w H β (.elt g j) (.pointer (some ⟨k, s + j, none⟩))
  | fn (f : FuncId) (cs : List AV) (vs : Array Value) (hl : cs.length = vs.size) (h : ∀ (i : Nat) (c : AV) (x : Value), cs[i]? = some c → vs[i]? = some x → Rep w H β c x) : Rep w H β (.fn f cs) (.func (.func f) #[] vs)

/-- What a step of the program leaves of a world, whatever it does: only what may be written is. -/
structure Stp (base : Nat) (w : World) (H : List Box) (β : Pl) (w' : World) (H' : List Box) (β' : Pl) : Prop where
  os : w'.os = w.os
  tape : w'.tape = w.tape
  output : w'.output = w.output
  size : w.heap.size ≤ w'.heap.size
  shape : ∀ (k : Nat) (c : Array Value) (e : TypeId) (fr : Nat × Nat), w.heap[k]? = some (.cells c e fr) → ∃ (c' : Array Value) (fr' : Nat × Nat), w'.heap[k]? = some (.cells c' e fr') ∧ c'.size = c.size ∧ (k < base → fr' = fr) ∧ (okFr fr c.size → (∃ x, Wr H' β' k x) → okFr fr' c'.size)
  other : ∀ (k : Nat) (o : Obj), w.heap[k]? = some o → (∀ c e fr, o ≠ .cells c e fr) → w'.heap[k]? = some o
  keep : ∀ (k x : Nat), k < w.heap.size → ¬ Wr H β k x → w'.cell? ⟨k, x, none⟩ = w.cell? ⟨k, x, none⟩
  wr : ∀ (k x : Nat), k < w.heap.size → Wr H' β' k x → Wr H β k x
  ids : ∀ (b : Nat) (bx : Box), H[b]? = some bx → ∃ bx' : Box, H'[b]? = some bx' ∧ bx.gen ≤ bx'.gen ∧ (bx'.gen = bx.gen → β' b = β b)

theorem Stp.refl {base : Nat} (w : World) (H : List Box) (β : Pl) : Stp base w H β w H β :=
  ⟨rfl, rfl, rfl, Nat.le_refl _, fun _ c _ fr h => ⟨c, fr, h, rfl, fun _ => rfl, fun h _ => h⟩, fun _ _ h _ => h, fun _ _ _ _ => rfl, fun _ _ _ h => h, fun _ bx h => ⟨bx, h, Nat.le_refl _, fun _ => rfl⟩⟩

theorem Stp.trans {base : Nat} {w w1 w2 : World} {H H1 H2 : List Box} {β β1 β2 : Pl} (h : Stp base w H β w1 H1 β1) (h' : Stp base w1 H1 β1 w2 H2 β2) : Stp base w H β w2 H2 β2 where
  os := h'.os.trans h.os
  tape := h'.tape.trans h.tape
  output := h'.output.trans h.output
  size := Nat.le_trans h.size h'.size
  shape k c e fr hk := by
    obtain ⟨c1, f1, h1, e1, g1, q1⟩ := h.shape k c e fr hk
    obtain ⟨c2, f2, h2, e2, g2, q2⟩ := h'.shape k c1 e f1 h1
    exact ⟨c2, f2, h2, e2.trans e1, fun hb => (g2 hb).trans (g1 hb), fun hq hw => q2 (q1 hq (hw.imp fun x hx => h'.wr k x (Nat.lt_of_lt_of_le (Array.getElem?_eq_some_iff.1 hk).1 h.size) hx)) hw⟩
  other k o hk ho := h'.other k o (h.other k o hk ho) ho
  keep k x hk hw := by
    rw [h'.keep k x (Nat.lt_of_lt_of_le hk h.size) (fun hh => hw (h.wr k x hk hh)), h.keep k x hk hw]
  wr k x hk hw := h.wr k x hk (h'.wr k x (Nat.lt_of_lt_of_le hk h.size) hw)
  ids b bx hb := by
    obtain ⟨b1, h1, g1, e1⟩ := h.ids b bx hb
    obtain ⟨b2, h2, g2, e2⟩ := h'.ids b b1 h1
    refine ⟨b2, h2, Nat.le_trans g1 g2, fun e => ?_⟩
    rw [e2 (by omega), e1 (by omega)]

theorem cell_lt {w : World} {a : Addr} {v : Value} (h : w.cell? a = some v) : a.block < w.heap.size := World.block_lt_of_cell? w a h

theorem SlAt.stp {base : Nat} {w w' : World} {H H' : List Box} {β β' : Pl} (hs : Stp base w H β w' H' β') {loc : Option (Nat × Nat)} {o n sz : Nat} {full : Bool} {x : Value} (h : SlAt w loc o n sz full x) : SlAt w' loc o n sz full x := by
  obtain ⟨a, cap, hx, hn, hf, hc⟩ := h
  refine ⟨a, cap, hx, hn, hf, fun h0 => ?_⟩
  obtain ⟨k, s, c, e, fr, h1, h2, h3, h4⟩ := hc h0
  obtain ⟨c', fr', h5, h6, _⟩ := hs.shape k c e fr h3
  exact ⟨k, s, c', e, fr', h1, h2, h5, by omega⟩

/-- A step keeps what is represented. -/
theorem Rep.stp {base : Nat} {w w' : World} {H H' : List Box} {β β' : Pl} (hs : Stp base w H β w' H' β') {c : AV} {x : Value} (h : Rep w H β c x) : Rep w' H' β' c x := by
  induction h with
  | v x => exact .v x
  | dead x => exact .dead x
  | emp a => exact .emp a
  | mp es k clock h => exact .mp es k clock (hs.other k _ h (by intro c e fr; simp))
  | lit n sz gs v _ hk ih =>
    obtain ⟨k, s, m, cap, e, h1, h2, h3⟩ := hk
    exact .lit n sz gs v ih ⟨k, s, m, cap, e, h1, Nat.lt_of_lt_of_le h2 hs.size, fun y hw => h3 y (hs.wr k y h2 hw)⟩
  | agg cs vs hl _ ih => exact .agg cs vs hl ih
  | tup cs vs hl _ ih => exact .tup cs vs hl ih
  | lst0 sz a cap => exact .lst0 sz a cap
  | lst sz gs k s cap x hn hg hc _ ih =>
    refine .lst sz gs k s cap x hn hg (fun i j g c hi hj => ?_) ih
    obtain ⟨h1, h3, h2⟩ := hc i j g c hi hj
    have hlt := cell_lt h1
    exact ⟨by rw [hs.keep k _ hlt h2]; exact h1, h3, fun hw => h2 (hs.wr k _ hlt hw)⟩
  | sl b g o n sz full x bx hb hg hx h =>
    obtain ⟨bx', h1, h2, h3⟩ := hs.ids b bx hb
    exact .sl b g o n sz full x bx' h1 (Nat.le_trans hg h2) hx fun e => by
      rw [h3 (by omega)]
      exact (h (by omega)).stp hs
  | ptr b g o x bx hb hg hx h =>
    obtain ⟨bx', h1, h2, h3⟩ := hs.ids b bx hb
    exact .ptr b g o x bx' h1 (Nat.le_trans hg h2) hx fun e => by
      rw [h3 (by omega)]
      exact h (by omega)
  | bself b g e x bx hb hg hx h =>
    obtain ⟨bx', h1, h2, h3⟩ := hs.ids b bx hb
    exact .bself b g e x bx' h1 (Nat.le_trans hg h2) hx fun he => by
      rw [h3 (by omega)]
      obtain ⟨k, c, fr, g1, g2, g3, g4⟩ := h (by omega)
      obtain ⟨c', fr', g5, g6, _⟩ := hs.shape k c e fr g3
      exact ⟨k, c', fr', g1, g2, g5, g6.trans g4⟩
  | bs b g n e x bx hb hg hx h ht =>
    obtain ⟨bx', h1, h2, h3⟩ := hs.ids b bx hb
    exact .bs b g n e x bx' h1 (Nat.le_trans hg h2) hx (fun e => by
      rw [h3 (by omega)]
      exact (h (by omega)).stp hs) fun a m cap ha h0 => by
      obtain ⟨k, c, fr, g1, g2, g3⟩ := ht a m cap ha h0
      obtain ⟨c', fr', g5, g6, _, g7⟩ := hs.shape k c e fr g2
      exact ⟨k, c', fr', g1, g5, fun hw => g7 (g3 (hw.imp fun y hy => hs.wr k y (Array.getElem?_eq_some_iff.1 g2).1 hy)) hw⟩
  | bp b g n e x hx h =>
    refine .bp b g n e x hx fun h0 => ?_
    obtain ⟨bx, hb, hg, hh⟩ := h h0
    obtain ⟨bx', h1, h2, h3⟩ := hs.ids b bx hb
    refine ⟨bx', h1, Nat.le_trans hg h2, fun he => ?_⟩
    rw [h3 (by omega)]
    obtain ⟨k, c, fr, g1, g2, g3, g4, g5⟩ := hh (by omega)
    obtain ⟨c', fr', g6, g7, _, g8⟩ := hs.shape k c e fr g3
    exact ⟨k, c', fr', g1, g2, g6, fun hw => g8 (g4 (hw.imp fun y hy => hs.wr k y (Array.getElem?_eq_some_iff.1 g3).1 hy)) hw, by omega⟩
  | elt g j k s x hc _ ih =>
    refine .elt g j k s x (fun j c hj => ?_) ih
    obtain ⟨h1, h3, h2⟩ := hc j c hj
    have hlt := cell_lt h1
    exact ⟨by rw [hs.keep k _ hlt h2]; exact h1, h3, fun hw => h2 (hs.wr k _ hlt hw)⟩
  | fn f cs vs hl _ ih => exact .fn f cs vs hl ih

/-- The cells of package variables that nobody writes, as the program's text lays them. -/
def gvals : Nat → List Value := fun _ => []
/-- What lies below the first block that may be written: package variables, as they were laid. -/
structure Bse (base : Nat) (w : World) : Prop where
  le : base ≤ w.heap.size
  glob : ∀ (g j : Nat) (v : Value), (gvals g)[j]? = some v → g < base ∧ w.cell? ⟨g, j, none⟩ = some v ∧ v.oneCell' = true

/-- What holds of a world and its boxes at every moment. -/
structure Inv (base : Nat) (w : World) (H : List Box) (β : Pl) : Prop where
  bse : Bse base w
  ro : ∀ (i : Nat) (bx : Box), H[i]? = some bx → bx.ro ≤ bx.cells.length
  virt : ∀ (i : Nat) (bx : Box), H[i]? = some bx → β i = none → bx.cells = []
  real : ∀ (i : Nat) (bx : Box) (k s : Nat), H[i]? = some bx → β i = some (k, s) → base ≤ k ∧ k < w.heap.size
  cells : ∀ (i : Nat) (bx : Box) (k s : Nat), H[i]? = some bx → β i = some (k, s) → ∀ (j : Nat) (c : AV), bx.cells[j]? = some c → ∃ x, w.cell? ⟨k, s + j, none⟩ = some x ∧ x.oneCell' = true ∧ Rep w H β c x
  free : ∀ (k x : Nat), Wr H β k x → (∃ v, w.cell? ⟨k, x, none⟩ = some v) → w.frozen? ⟨k, x, none⟩ = false
  apart : ∀ (i i' : Nat) (bx bx' : Box) (k s s' x : Nat), i ≠ i' → H[i]? = some bx → H[i']? = some bx' → β i = some (k, s) → β i' = some (k, s') →
    s + bx.ro ≤ x → (bx.grow = true ∨ x < s + bx.cells.length) → s' ≤ x → ¬ (bx'.grow = true ∨ x < s' + bx'.cells.length)

theorem Inv.low {base : Nat} {w : World} {H : List Box} {β : Pl} (hI : Inv base w H β) {k x : Nat} (h : Wr H β k x) : base ≤ k := by
  obtain ⟨i, bx, s, h1, h2, _⟩ := h
  exact (hI.real i bx k s h1 h2).1
theorem Inv.bseS {base : Nat} {w w' : World} {H H' : List Box} {β β' : Pl} (hI : Inv base w H β) (h : Stp base w H β w' H' β') : Bse base w' :=
  ⟨Nat.le_trans hI.bse.le h.size, fun g j v hg => by
    obtain ⟨h1, h2, h3⟩ := hI.bse.glob g j v hg
    have := hI.bse.le
    exact ⟨h1, (h.keep g j (by omega) fun hw => by have := hI.low hw; omega).trans h2, h3⟩⟩

end Go.Proofs.YtnlmdeeadldgmaaGreatDoor.VL

namespace Go.Proofs.YtnlmdeeadldgmaaGreatDoor.VL
open Go Go.RowKit

/-- What every change of the world leaves. -/
structure Wor (w w' : World) : Prop where
  os : w'.os = w.os
  tape : w'.tape = w.tape
  output : w'.output = w.output
  size : w.heap.size ≤ w'.heap.size
  shape : ∀ (k : Nat) (c : Array Value) (e : TypeId) (fr : Nat × Nat), w.heap[k]? = some (.cells c e fr) → ∃ c' : Array Value, w'.heap[k]? = some (.cells c' e fr) ∧ c'.size = c.size
  other : ∀ (k : Nat) (o : Obj), w.heap[k]? = some o → (∀ c e fr, o ≠ .cells c e fr) → w'.heap[k]? = some o

theorem Wor.shape' {base : Nat} {w w' : World} {H' : List Box} {β' : Pl} (h : Wor w w') (k : Nat) (c : Array Value) (e : TypeId) (fr : Nat × Nat) (hk : w.heap[k]? = some (.cells c e fr)) : ∃ (c' : Array Value) (fr' : Nat × Nat), w'.heap[k]? = some (.cells c' e fr') ∧ c'.size = c.size ∧ (k < base → fr' = fr) ∧ (okFr fr c.size → (∃ x, Wr H' β' k x) → okFr fr' c'.size) :=
  let ⟨c', h1, h2⟩ := h.shape k c e fr hk
  ⟨c', fr, h1, h2, fun _ => rfl, fun h _ => h2 ▸ h⟩

theorem Wor.refl (w : World) : Wor w w := ⟨rfl, rfl, rfl, Nat.le_refl _, fun _ c _ _ h => ⟨c, h, rfl⟩, fun _ _ h _ => h⟩
theorem Wor.trans {w w1 w2 : World} (h : Wor w w1) (h' : Wor w1 w2) : Wor w w2 where
  os := h'.os.trans h.os
  tape := h'.tape.trans h.tape
  output := h'.output.trans h.output
  size := Nat.le_trans h.size h'.size
  shape k c e fr hk := by
    obtain ⟨c1, h1, e1⟩ := h.shape k c e fr hk
    obtain ⟨c2, h2, e2⟩ := h'.shape k c1 e fr h1
    exact ⟨c2, h2, e2.trans e1⟩
  other k o hk ho := h'.other k o (h.other k o hk ho) ho
theorem Wor.alloc (w : World) (o : Obj) : Wor w (w.alloc o) where
  os := rfl
  tape := rfl
  output := rfl
  size := by simp
  shape k c e fr h := ⟨c, by rw [Below.heap_alloc w o k (Array.getElem?_eq_some_iff.1 h).1]; exact h, rfl⟩
  other k o' h _ := by rw [Below.heap_alloc w o k (Array.getElem?_eq_some_iff.1 h).1]; exact h
theorem Wor.drawn (w : World) (n : Nat) : Wor w { w with drawn := n } := ⟨rfl, rfl, rfl, Nat.le_refl _, fun _ c _ _ h => ⟨c, h, rfl⟩, fun _ _ h _ => h⟩
theorem Wor.setCell (w : World) (a : Addr) (v : Value) : Wor w (w.setCell a v) where
  os := rfl
  tape := rfl
  output := rfl
  size := by simp [World.setCell]
  shape k c e fr h := by
    by_cases hk : k = a.block
    · subst hk
      refine ⟨if a.spot.isSome then c else c.setIfInBounds a.off v, ?_, ?_⟩
      · simp [World.setCell, Array.getElem?_modify, h]
      · split <;> simp
    · exact ⟨c, by rw [Below.heap_setCell w a v k hk]; exact h, rfl⟩
  other k o h ho := by
    by_cases hk : k = a.block
    · subst hk
      simp only [World.setCell, Array.getElem?_modify, if_pos, h, Option.map_some]
    · rw [Below.heap_setCell w a v k hk]; exact h
theorem Wor.frozen {w w' : World} (h : Wor w w') {k x : Nat} (hk : k < w.heap.size) : w'.frozen? ⟨k, x, none⟩ = w.frozen? ⟨k, x, none⟩ := by
  have hs : w.heap[k]? = some w.heap[k] := Array.getElem?_eq_getElem hk
  unfold World.frozen?
  dsimp only
  rw [hs]
  cases ho : w.heap[k] with
  | cells c e fr =>
    obtain ⟨c', h1, _⟩ := h.shape k c e fr (by rw [hs, ho])
    rw [h1]
  | _ =>
    rw [h.other k _ (hs.trans (by rw [ho])) (by intro c e fr; simp)]

/-- What was there had a cell where it has one now. -/
theorem Wor.back {w w' : World} (h : Wor w w') {k x : Nat} (hk : k < w.heap.size) (hc : ∃ v, w'.cell? ⟨k, x, none⟩ = some v) : ∃ v, w.cell? ⟨k, x, none⟩ = some v := by
  obtain ⟨v, hc⟩ := hc
  have hs : w.heap[k]? = some w.heap[k] := Array.getElem?_eq_getElem hk
  unfold World.cell? at hc ⊢
  dsimp only at hc ⊢
  rw [hs]
  cases ho : w.heap[k] with
  | cells c e fr =>
    obtain ⟨c', h1, h2⟩ := h.shape k c e fr (by rw [hs, ho])
    rw [h1] at hc
    simp at hc ⊢
    obtain ⟨hx, _⟩ := Array.getElem?_eq_some_iff.1 hc
    exact ⟨c[x]'(by omega), Array.getElem?_eq_getElem _⟩
  | _ =>
    rw [h.other k _ (hs.trans (by rw [ho])) (by intro c e fr; simp)] at hc
    simp at hc
theorem alloc_cell (w : World) (o : Obj) (k x : Nat) (hk : k < w.heap.size) : (w.alloc o).cell? ⟨k, x, none⟩ = w.cell? ⟨k, x, none⟩ :=
  World.cell?_of_block (w := w) (Below.heap_alloc w o k hk)
theorem alloc_new (w : World) (c : Array Value) (e : TypeId) (fr : Nat × Nat) (x : Nat) : (w.alloc (.cells c e fr)).cell? ⟨w.heap.size, x, none⟩ = c[x]? := by
  show (match (w.heap.push (Obj.cells c e fr))[w.heap.size]? with | some (.cells c _ _) => if (none : Option Nat).isSome then none else c[x]? | _ => none) = c[x]?
  rw [Array.getElem?_push_size]; rfl
theorem alloc_new_frozen (w : World) (c : Array Value) (e : TypeId) (x : Nat) : (w.alloc (.cells c e)).frozen? ⟨w.heap.size, x, none⟩ = false := by
  show (match (w.heap.push (Obj.cells c e))[w.heap.size]? with | some (.cells _ _ (lo, hi)) => decide (lo ≤ x) && decide (x < hi) | _ => false) = false
  rw [Array.getElem?_push_size]; simp

def upd (β : Pl) (b : Nat) (l : Nat × Nat) : Pl := fun i => if i = b then some l else β i
theorem upd_same (β : Pl) (b : Nat) (l : Nat × Nat) : upd β b l b = some l := by simp [upd]
theorem upd_ne (β : Pl) {b i : Nat} (l : Nat × Nat) (h : i ≠ b) : upd β b l i = β i := by simp [upd, h]

/-- A box is put in another one's place. -/
theorem repl {base : Nat} {w w' : World} {H : List Box} {β : Pl} {b : Nat} {bx bx' : Box} {k' s' : Nat} (hI : Inv base w H β) (hb : H[b]? = some bx) (hw : Wor w w')
    (R : Nat → Nat → Prop) (hR : ∀ k x, R k x → ∃ s, β b = some (k, s) ∧ s + bx.ro ≤ x ∧ (bx.grow = true ∨ x < s + bx.cells.length))
    (keep : ∀ k x, k < w.heap.size → ¬ R k x → w'.cell? ⟨k, x, none⟩ = w.cell? ⟨k, x, none⟩)
    (hk : base ≤ k' ∧ k' < w'.heap.size) (hro : bx'.ro ≤ bx'.cells.length)
    (hreg : w.heap.size ≤ k' ∨ ∃ s, β b = some (k', s) ∧ s + bx.ro ≤ s' + bx'.ro ∧ s ≤ s' ∧ (bx'.grow = true → bx.grow = true) ∧ (bx.grow = true ∨ s' + bx'.cells.length ≤ s + bx.cells.length))
    (hgen : bx.gen ≤ bx'.gen) (hsame : bx'.gen = bx.gen → β b = some (k', s'))
    (hfree : w.heap.size ≤ k' → ∀ x, w'.frozen? ⟨k', x, none⟩ = false)
    (hcells : ∀ j c, bx'.cells[j]? = some c → ∃ x, w'.cell? ⟨k', s' + j, none⟩ = some x ∧ x.oneCell' = true ∧ Rep w H β c x) :
    Inv base w' (H.set b bx') (upd β b (k', s')) ∧ Stp base w H β w' (H.set b bx') (upd β b (k', s')) := by
  have hbl : b < H.length := (List.getElem?_eq_some_iff.1 hb).1
  have hget : ∀ i bx1, (H.set b bx')[i]? = some bx1 → (i = b ∧ bx1 = bx') ∨ (i ≠ b ∧ H[i]? = some bx1) := by
    intro i bx1 h
    by_cases hi : i = b
    · subst hi
      rw [List.getElem?_set_self hbl] at h
      exact .inl ⟨rfl, (Option.some.inj h).symm⟩
    · rw [List.getElem?_set_ne (Ne.symm hi)] at h
      exact .inr ⟨hi, h⟩
  have hst : Stp base w H β w' (H.set b bx') (upd β b (k', s')) := by
    refine ⟨hw.os, hw.tape, hw.output, hw.size, hw.shape', hw.other, fun k x hk hn => keep k x hk fun hr => hn ?_, fun k x hk hwr => ?_, fun i bi hi => ?_⟩
    · obtain ⟨s, h1, h2, h3⟩ := hR k x hr
      exact ⟨b, bx, s, hb, h1, h2, h3⟩
    · obtain ⟨i, bi, s, h1, h2, h3, h4⟩ := hwr
      rcases hget i bi h1 with ⟨rfl, rfl⟩ | ⟨hi, h1⟩
      · rw [upd_same] at h2
        injection h2 with h2
        injection h2 with e1 e2
        subst e1; subst e2
        rcases hreg with h | ⟨s, g1, g2, g3, g4, g5⟩
        · omega
        · refine ⟨i, bx, s, hb, g1, by omega, ?_⟩
          rcases g5 with g5 | g5
          · exact .inl g5
          · rcases h4 with h4 | h4
            · exact .inl (g4 h4)
            · exact .inr (by omega)
      · rw [upd_ne β _ hi] at h2
        exact ⟨i, bi, s, h1, h2, h3, h4⟩
    · by_cases hib : i = b
      · subst hib
        rw [hb] at hi
        obtain rfl := Option.some.inj hi
        exact ⟨bx', List.getElem?_set_self hbl, hgen, fun e => by rw [upd_same, hsame e]⟩
      · exact ⟨bi, by rw [List.getElem?_set_ne (Ne.symm hib)]; exact hi, Nat.le_refl _, fun _ => upd_ne β _ hib⟩
  refine ⟨⟨hI.bseS hst, fun i bi hi => ?_, fun i bi hi hv => ?_, fun i bi k s hi hl => ?_, fun i bi k s hi hl j c hj => ?_, fun k x hwr hcx => ?_, fun i i' bi bi' k s s' x hne hi hi' hl hl' h1 h2 h3 => ?_⟩, hst⟩
  · rcases hget i bi hi with ⟨rfl, rfl⟩ | ⟨_, h⟩
    · exact hro
    · exact hI.ro i bi h
  · rcases hget i bi hi with ⟨rfl, rfl⟩ | ⟨hi', h⟩
    · rw [upd_same] at hv; cases hv
    · exact hI.virt i bi h (by rwa [upd_ne β _ hi'] at hv)
  · rcases hget i bi hi with ⟨rfl, rfl⟩ | ⟨hi', h⟩
    · rw [upd_same] at hl
      injection hl with hl
      injection hl with e1 e2
      exact e1 ▸ hk
    · rw [upd_ne β _ hi'] at hl
      obtain ⟨h1, h2⟩ := hI.real i bi k s h hl
      exact ⟨h1, Nat.lt_of_lt_of_le h2 hw.size⟩
  · rcases hget i bi hi with ⟨rfl, rfl⟩ | ⟨hi', h⟩
    · rw [upd_same] at hl
      injection hl with hl
      injection hl with e1 e2
      subst e1; subst e2
      obtain ⟨x, g1, g0, g2⟩ := hcells j c hj
      exact ⟨x, g1, g0, g2.stp hst⟩
    · rw [upd_ne β _ hi'] at hl
      obtain ⟨x, g1, g0, g2⟩ := hI.cells i bi k s h hl j c hj
      refine ⟨x, ?_, g0, g2.stp hst⟩
      rw [keep k _ (hI.real i bi k s h hl).2 fun hr => ?_]
      · exact g1
      · obtain ⟨s1, r1, r2, r3⟩ := hR k _ hr
        have hjl := (List.getElem?_eq_some_iff.1 hj).1
        exact hI.apart b i bx bi k s1 s _ (Ne.symm hi') hb h r1 hl r2 r3 (by omega) (.inr (by omega))
  · obtain ⟨i, bi, s, h1, h2, h3, h4⟩ := hwr
    rcases hget i bi h1 with ⟨rfl, rfl⟩ | ⟨hi', h⟩
    · rw [upd_same] at h2
      injection h2 with h2
      injection h2 with e1 e2
      subst e1; subst e2
      rcases Nat.lt_or_ge k' w.heap.size with hlt | hge
      · rw [hw.frozen hlt]
        rcases hreg with g | ⟨s, g1, g2, g3, g4, g5⟩
        · omega
        · refine hI.free _ _ ⟨i, bx, s, hb, g1, by omega, ?_⟩ (hw.back hlt hcx)
          rcases g5 with g5 | g5
          · exact .inl g5
          · rcases h4 with h4 | h4
            · exact .inl (g4 h4)
            · exact .inr (by omega)
      · exact hfree hge x
    · rw [upd_ne β _ hi'] at h2
      rw [hw.frozen (hI.real i bi k s h h2).2]
      exact hI.free k x ⟨i, bi, s, h, h2, h3, h4⟩ (hw.back (hI.real i bi k s h h2).2 hcx)
  · rcases hget i bi hi with ⟨rfl, rfl⟩ | ⟨hib, h⟩
    · rcases hget i' bi' hi' with ⟨rfl, rfl⟩ | ⟨hib', h'⟩
      · exact absurd rfl hne
      · rw [upd_same] at hl
        rw [upd_ne β _ hib'] at hl'
        injection hl with hl
        injection hl with e1 e2
        subst e1; subst e2
        have hlt := (hI.real i' bi' _ s' h' hl').2
        rcases hreg with g | ⟨s1, g1, g2, g3, g4, g5⟩
        · omega
        · refine hI.apart i i' bx bi' _ s1 s' x hne hb h' g1 hl' (by omega) ?_ h3
          rcases g5 with g5 | g5
          · exact .inl g5
          · rcases h2 with h2 | h2
            · exact .inl (g4 h2)
            · exact .inr (by omega)
    · rw [upd_ne β _ hib] at hl
      rcases hget i' bi' hi' with ⟨rfl, rfl⟩ | ⟨hib', h'⟩
      · rw [upd_same] at hl'
        injection hl' with hl'
        injection hl' with e1 e2
        subst e1; subst e2
        have hlt := (hI.real i bi _ s h hl).2
        rcases hreg with g | ⟨s1, g1, g2, g3, g4, g5⟩
        · omega
        · intro hh
          refine hI.apart i i' bi bx _ s s1 x hne h hb hl g1 h1 h2 (by omega) ?_
          rcases g5 with g5 | g5
          · exact .inl g5
          · rcases hh with hh | hh
            · exact .inl (g4 hh)
            · exact .inr (by omega)
      · rw [upd_ne β _ hib'] at hl'
        exact hI.apart i i' bi bi' k s s' x hne h h' hl hl' h1 h2 h3

/-- A step that writes nothing that is owned. -/
theorem still {base : Nat} {w w' : World} {H : List Box} {β : Pl} (hI : Inv base w H β) (hw : Wor w w')
    (keep : ∀ k x, k < w.heap.size → w'.cell? ⟨k, x, none⟩ = w.cell? ⟨k, x, none⟩) : Inv base w' H β ∧ Stp base w H β w' H β := by
  have hst : Stp base w H β w' H β := ⟨hw.os, hw.tape, hw.output, hw.size, hw.shape', hw.other, fun k x hk _ => keep k x hk, fun _ _ _ h => h, fun _ bx h => ⟨bx, h, Nat.le_refl _, fun _ => rfl⟩⟩
  refine ⟨⟨hI.bseS hst, hI.ro, hI.virt, fun i bx k s hi hl => ?_, fun i bx k s hi hl j c hj => ?_, fun k x hwr hcx => ?_, hI.apart⟩, hst⟩
  · obtain ⟨h1, h2⟩ := hI.real i bx k s hi hl
    exact ⟨h1, Nat.lt_of_lt_of_le h2 hw.size⟩
  · obtain ⟨x, g1, g0, g2⟩ := hI.cells i bx k s hi hl j c hj
    exact ⟨x, by rw [keep k _ (hI.real i bx k s hi hl).2]; exact g1, g0, g2.stp hst⟩
  · have hwr' := hwr
    obtain ⟨i, bx, s, h1, h2, h3, h4⟩ := hwr
    rw [hw.frozen (hI.real i bx k s h1 h2).2]
    exact hI.free k x hwr' (hw.back (hI.real i bx k s h1 h2).2 hcx)

/-- A new box, in a new block. -/
theorem newb {base : Nat} {w : World} {H : List Box} {β : Pl} (hI : Inv base w H β) (cs : Array Value) (e : TypeId) (bx : Box) (hro : bx.ro ≤ bx.cells.length)
    (hcells : ∀ (j : Nat) (c : AV), bx.cells[j]? = some c → ∃ x, cs[j]? = some x ∧ x.oneCell' = true ∧ Rep w H β c x) :
    Inv base (w.alloc (.cells cs e)) (H ++ [bx]) (upd β H.length (w.heap.size, 0)) ∧ Stp base w H β (w.alloc (.cells cs e)) (H ++ [bx]) (upd β H.length (w.heap.size, 0)) := by
  have hw := Wor.alloc w (.cells cs e)
  have hget : ∀ i bx1, (H ++ [bx])[i]? = some bx1 → (i = H.length ∧ bx1 = bx) ∨ (i ≠ H.length ∧ H[i]? = some bx1) := by
    intro i bx1 h
    rcases Nat.lt_trichotomy i H.length with hi | hi | hi
    · rw [List.getElem?_append_left hi] at h
      exact .inr ⟨by omega, h⟩
    · subst hi
      rw [List.getElem?_append_right (Nat.le_refl _)] at h
      simp at h
      exact .inl ⟨rfl, h.symm⟩
    · rw [List.getElem?_append_right (by omega)] at h
      have : i - H.length ≠ 0 := by omega
      simp [this] at h
  have hlen : ∀ i bx1, H[i]? = some bx1 → i ≠ H.length := fun i bx1 h => by have := (List.getElem?_eq_some_iff.1 h).1; omega
  have hst : Stp base w H β (w.alloc (.cells cs e)) (H ++ [bx]) (upd β H.length (w.heap.size, 0)) := by
    refine ⟨hw.os, hw.tape, hw.output, hw.size, hw.shape', hw.other, fun k x hk _ => alloc_cell w _ k x hk, fun k x hk hwr => ?_, fun i bi hi => ?_⟩
    · obtain ⟨i, bi, s, h1, h2, h3, h4⟩ := hwr
      rcases hget i bi h1 with ⟨rfl, rfl⟩ | ⟨hi, h1⟩
      · rw [upd_same] at h2
        injection h2 with h2
        injection h2 with e1 e2
        omega
      · rw [upd_ne β _ hi] at h2
        exact ⟨i, bi, s, h1, h2, h3, h4⟩
    · exact ⟨bi, by rw [List.getElem?_append_left (List.getElem?_eq_some_iff.1 hi).1]; exact hi, Nat.le_refl _, fun _ => upd_ne β _ (hlen i bi hi)⟩
  refine ⟨⟨hI.bseS hst, fun i bi hi => ?_, fun i bi hi hv => ?_, fun i bi k s hi hl => ?_, fun i bi k s hi hl j c hj => ?_, fun k x hwr hcx => ?_, fun i i' bi bi' k s s' x hne hi hi' hl hl' h1 h2 h3 => ?_⟩, hst⟩
  · rcases hget i bi hi with ⟨rfl, rfl⟩ | ⟨_, h⟩
    · exact hro
    · exact hI.ro i bi h
  · rcases hget i bi hi with ⟨rfl, rfl⟩ | ⟨hi', h⟩
    · rw [upd_same] at hv; cases hv
    · exact hI.virt i bi h (by rwa [upd_ne β _ hi'] at hv)
  · rcases hget i bi hi with ⟨rfl, rfl⟩ | ⟨hi', h⟩
    · rw [upd_same] at hl
      injection hl with hl
      injection hl with e1 e2
      subst e1
      exact ⟨hI.bse.le, by simp⟩
    · rw [upd_ne β _ hi'] at hl
      obtain ⟨h1, h2⟩ := hI.real i bi k s h hl
      exact ⟨h1, Nat.lt_of_lt_of_le h2 hw.size⟩
  · rcases hget i bi hi with ⟨rfl, rfl⟩ | ⟨hi', h⟩
    · rw [upd_same] at hl
      injection hl with hl
      injection hl with e1 e2
      subst e1; subst e2
      obtain ⟨x, g1, g0, g2⟩ := hcells j c hj
      exact ⟨x, by rw [alloc_new, Nat.zero_add]; exact g1, g0, g2.stp hst⟩
    · rw [upd_ne β _ hi'] at hl
      obtain ⟨x, g1, g0, g2⟩ := hI.cells i bi k s h hl j c hj
      exact ⟨x, by rw [alloc_cell w _ k _ (hI.real i bi k s h hl).2]; exact g1, g0, g2.stp hst⟩
  · obtain ⟨i, bi, s, h1, h2, h3, h4⟩ := hwr
    rcases hget i bi h1 with ⟨rfl, rfl⟩ | ⟨hi', h⟩
    · rw [upd_same] at h2
      injection h2 with h2
      injection h2 with e1 e2
      subst e1
      exact alloc_new_frozen w cs e x
    · rw [upd_ne β _ hi'] at h2
      rw [hw.frozen (hI.real i bi k s h h2).2]
      exact hI.free k x ⟨i, bi, s, h, h2, h3, h4⟩ (hw.back (hI.real i bi k s h h2).2 hcx)
  · rcases hget i bi hi with ⟨rfl, rfl⟩ | ⟨hib, h⟩
    · rcases hget i' bi' hi' with ⟨rfl, rfl⟩ | ⟨hib', h'⟩
      · exact absurd rfl hne
      · rw [upd_same] at hl
        rw [upd_ne β _ hib'] at hl'
        injection hl with hl
        injection hl with e1 e2
        have hlt := (hI.real i' bi' _ s' h' hl').2
        omega
    · rw [upd_ne β _ hib] at hl
      rcases hget i' bi' hi' with ⟨rfl, rfl⟩ | ⟨hib', h'⟩
      · rw [upd_same] at hl'
        injection hl' with hl'
        injection hl' with e1 e2
        have hlt := (hI.real i bi _ s h hl).2
        omega
      · rw [upd_ne β _ hib'] at hl'
        exact hI.apart i i' bi bi' k s s' x hne h h' hl hl' h1 h2 h3

def updn (β : Pl) (b : Nat) : Pl := fun i => if i = b then none else β i
theorem updn_same (β : Pl) (b : Nat) : updn β b b = none := by simp [updn]
theorem updn_ne (β : Pl) {b i : Nat} (h : i ≠ b) : updn β b i = β i := by simp [updn, h]
/-- A new box without memory of its own yet. -/
theorem newv {base : Nat} {w : World} {H : List Box} {β : Pl} (hI : Inv base w H β) (ro g : Nat) (hro : ro = 0) :
    Inv base w (H ++ [⟨[], ro, g, true⟩]) (updn β H.length) ∧ Stp base w H β w (H ++ [⟨[], ro, g, true⟩]) (updn β H.length) := by
  have hget : ∀ i bx1, (H ++ [(⟨[], ro, g, true⟩ : Box)])[i]? = some bx1 → (i = H.length ∧ bx1 = ⟨[], ro, g, true⟩) ∨ (i ≠ H.length ∧ H[i]? = some bx1) := by
    intro i bx1 h
    rcases Nat.lt_trichotomy i H.length with hi | hi | hi
    · rw [List.getElem?_append_left hi] at h
      exact .inr ⟨by omega, h⟩
    · subst hi
      rw [List.getElem?_append_right (Nat.le_refl _)] at h
      simp at h
      exact .inl ⟨rfl, h.symm⟩
    · rw [List.getElem?_append_right (by omega)] at h
      have : i - H.length ≠ 0 := by omega
      simp [this] at h
  have hlen : ∀ i bx1, H[i]? = some bx1 → i ≠ H.length := fun i bx1 h => by have := (List.getElem?_eq_some_iff.1 h).1; omega
  have hwr : ∀ k x, Wr (H ++ [(⟨[], ro, g, true⟩ : Box)]) (updn β H.length) k x → Wr H β k x := by
    rintro k x ⟨i, bi, s, h1, h2, h3, h4⟩
    rcases hget i bi h1 with ⟨rfl, rfl⟩ | ⟨hi, h1⟩
    · rw [updn_same] at h2; cases h2
    · rw [updn_ne β hi] at h2
      exact ⟨i, bi, s, h1, h2, h3, h4⟩
  have hst : Stp base w H β w (H ++ [(⟨[], ro, g, true⟩ : Box)]) (updn β H.length) :=
    ⟨rfl, rfl, rfl, Nat.le_refl _, fun _ c _ fr h => ⟨c, fr, h, rfl, fun _ => rfl, fun h _ => h⟩, fun _ _ h _ => h, fun _ _ _ _ => rfl, fun k x _ h => hwr k x h, fun i bi hi =>
      ⟨bi, by rw [List.getElem?_append_left (List.getElem?_eq_some_iff.1 hi).1]; exact hi, Nat.le_refl _, fun _ => updn_ne β (hlen i bi hi)⟩⟩
  refine ⟨⟨hI.bse, fun i bi hi => ?_, fun i bi hi hv => ?_, fun i bi k s hi hl => ?_, fun i bi k s hi hl j c hj => ?_, fun k x h hc => hI.free k x (hwr k x h) hc, fun i i' bi bi' k s s' x hne hi hi' hl hl' => ?_⟩, hst⟩
  · rcases hget i bi hi with ⟨rfl, rfl⟩ | ⟨_, h⟩
    · simp [hro]
    · exact hI.ro i bi h
  · rcases hget i bi hi with ⟨rfl, rfl⟩ | ⟨hi', h⟩
    · rfl
    · exact hI.virt i bi h (by rwa [updn_ne β hi'] at hv)
  · rcases hget i bi hi with ⟨rfl, rfl⟩ | ⟨hi', h⟩
    · rw [updn_same] at hl; cases hl
    · rw [updn_ne β hi'] at hl
      exact hI.real i bi k s h hl
  · rcases hget i bi hi with ⟨rfl, rfl⟩ | ⟨hi', h⟩
    · rw [updn_same] at hl; cases hl
    · rw [updn_ne β hi'] at hl
      obtain ⟨x, g1, g0, g2⟩ := hI.cells i bi k s h hl j c hj
      exact ⟨x, g1, g0, g2.stp hst⟩
  · rcases hget i bi hi with ⟨rfl, rfl⟩ | ⟨h1, h⟩
    · rw [updn_same] at hl; cases hl
    · rcases hget i' bi' hi' with ⟨rfl, rfl⟩ | ⟨h1', h'⟩
      · rw [updn_same] at hl'; cases hl'
      · rw [updn_ne β h1] at hl
        rw [updn_ne β h1'] at hl'
        exact hI.apart i i' bi bi' k s s' x hne h h' hl hl'

/-- A box without memory changes its generation. -/
theorem replv {base : Nat} {w : World} {H : List Box} {β : Pl} {b : Nat} {bx bx' : Box} (hI : Inv base w H β) (hb : H[b]? = some bx) (hv : β b = none) (hc : bx'.cells = []) (hro : bx'.ro = 0) (hgen : bx.gen ≤ bx'.gen) :
    Inv base w (H.set b bx') β ∧ Stp base w H β w (H.set b bx') β := by
  have hbl : b < H.length := (List.getElem?_eq_some_iff.1 hb).1
  have hget : ∀ i bx1, (H.set b bx')[i]? = some bx1 → (i = b ∧ bx1 = bx') ∨ (i ≠ b ∧ H[i]? = some bx1) := by
    intro i bx1 h
    by_cases hi : i = b
    · subst hi
      rw [List.getElem?_set_self hbl] at h
      exact .inl ⟨rfl, (Option.some.inj h).symm⟩
    · rw [List.getElem?_set_ne (Ne.symm hi)] at h
      exact .inr ⟨hi, h⟩
  have hwr : ∀ k x, Wr (H.set b bx') β k x → Wr H β k x := by
    rintro k x ⟨i, bi, s, h1, h2, h3, h4⟩
    rcases hget i bi h1 with ⟨rfl, rfl⟩ | ⟨hi, h1⟩
    · rw [hv] at h2; cases h2
    · exact ⟨i, bi, s, h1, h2, h3, h4⟩
  have hst : Stp base w H β w (H.set b bx') β :=
    ⟨rfl, rfl, rfl, Nat.le_refl _, fun _ c _ fr h => ⟨c, fr, h, rfl, fun _ => rfl, fun h _ => h⟩, fun _ _ h _ => h, fun _ _ _ _ => rfl, fun k x _ h => hwr k x h, fun i bi hi => by
      by_cases hib : i = b
      · subst hib
        rw [hb] at hi
        obtain rfl := Option.some.inj hi
        exact ⟨bx', List.getElem?_set_self hbl, hgen, fun _ => rfl⟩
      · exact ⟨bi, by rw [List.getElem?_set_ne (Ne.symm hib)]; exact hi, Nat.le_refl _, fun _ => rfl⟩⟩
  refine ⟨⟨hI.bse, fun i bi hi => ?_, fun i bi hi hv' => ?_, fun i bi k s hi hl => ?_, fun i bi k s hi hl j c hj => ?_, fun k x h hc => hI.free k x (hwr k x h) hc, fun i i' bi bi' k s s' x hne hi hi' hl hl' => ?_⟩, hst⟩
  · rcases hget i bi hi with ⟨rfl, rfl⟩ | ⟨_, h⟩
    · omega
    · exact hI.ro i bi h
  · rcases hget i bi hi with ⟨rfl, rfl⟩ | ⟨hi', h⟩
    · exact hc
    · exact hI.virt i bi h hv'
  · rcases hget i bi hi with ⟨rfl, rfl⟩ | ⟨hi', h⟩
    · rw [hv] at hl; cases hl
    · exact hI.real i bi k s h hl
  · rcases hget i bi hi with ⟨rfl, rfl⟩ | ⟨hi', h⟩
    · rw [hv] at hl; cases hl
    · obtain ⟨x, g1, g0, g2⟩ := hI.cells i bi k s h hl j c hj
      exact ⟨x, g1, g0, g2.stp hst⟩
  · rcases hget i bi hi with ⟨rfl, rfl⟩ | ⟨h1, h⟩
    · rw [hv] at hl; cases hl
    · rcases hget i' bi' hi' with ⟨rfl, rfl⟩ | ⟨h1', h'⟩
      · rw [hv] at hl'; cases hl'
      · exact hI.apart i i' bi bi' k s s' x hne h h' hl hl'

end Go.Proofs.YtnlmdeeadldgmaaGreatDoor.VL

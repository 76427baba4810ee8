/- Entries, and tables, among a law's arguments. -/
import Derived.Test.YtjkdahpoalnjjaaDoorZEa
import Derived.Test.YtjkdahpoalnjjaaDoorZCf
import Derived.Test.YtjkdahpoalnjjaaDoorZMb
import Derived.Test.YtjkdahpoalnjjaaDoorRows
import Derived.MakeChecks
import Derived.Lib.LaidU8
set_option linter.unusedVariables false
set_option linter.unusedSimpArgs false
set_option linter.constructorNameAsVariable false
set_option maxRecDepth 10000
namespace Go.Proofs.YtjkdahpoalnjjaaDoor.VL
open Go Go.RowKit Go.Lib Go.ChangeShapes Go.WideShapes
variable {H : Type} {enc : TypeId × Value → H}

theorem opens_en {W : World} : Opens enc Tryd.prog W 72 3 enC (fun x => x.s.length ≤ 9223372036854775807) :=
  (Opens.struct Tryd.underlying72 (by kernel_rfl) (.cons rfl (.int Tryd.underlying3 (by kernel_rfl)) (.cons rfl (.int Tryd.underlying3 (by kernel_rfl)) (.last rfl (.str Tryd.underlying9 (by kernel_rfl)))))).conv
    (fun p => (⟨p.1, p.2.1, p.2.2⟩ : En)) (fun a h => ⟨rfl, h.2.2⟩)
theorem rep_ents {W : World} {b0 : Nat} {v : Value} {d : DataW H} {ps : List MemPlace} (hval : Value.okWide Tryd.prog W .any b0 66 v) (hd : DataW.Trod enc Tryd.prog W 0 (fun _ => true) true 66 v d ps) :
    ∃ l : List En, Rep W [] noP (.lst 3 (enG l)) v ∧ (∀ x ∈ l, x.s.length ≤ 9223372036854775807) ∧ l.length ≤ 9223372036854775807 :=
  (Opens.slice Tryd.underlying66 (by kernel_rfl) (by decide) opens_en).sl Tryd.underlying66 hval hd

end Go.Proofs.YtjkdahpoalnjjaaDoor.VL

/- Talks among a law's arguments; the variable that a row lays. -/
set_option linter.unusedVariables false
set_option linter.unusedSimpArgs false
set_option linter.constructorNameAsVariable false
set_option maxRecDepth 10000
namespace Go.Proofs.YtjkdahpoalnjjaaDoor.VL
open Go Go.RowKit Go.Lib Go.ChangeShapes Go.WideShapes
variable {H : Type} {enc : TypeId × Value → H}

theorem opens_dg {W : World} : Opens enc Tryd.prog W 53 3 dgC (fun _ => True) :=
  (Opens.struct Tryd.underlying53 (by kernel_rfl) (.cons rfl (.int Tryd.underlying3 (by kernel_rfl)) (.cons rfl (.int Tryd.underlying3 (by kernel_rfl)) (.last rfl (.int Tryd.underlying3 (by kernel_rfl)))))).conv
    (fun p => (⟨p.1, p.2.1, p.2.2⟩ : Dg)) (fun a h => ⟨rfl, trivial⟩)
theorem opens_dl {W : World} : Opens enc Tryd.prog W 70 5 dlC DlIn :=
  (Opens.struct Tryd.underlying70 (by kernel_rfl) (.cons rfl (.int Tryd.underlying3 (by kernel_rfl)) (.cons rfl (.int Tryd.underlying3 (by kernel_rfl)) (.last rfl
    (Opens.struct Tryd.underlying68 (by kernel_rfl) (.cons rfl (.int Tryd.underlying3 (by kernel_rfl)) (.cons rfl (.int Tryd.underlying3 (by kernel_rfl)) (.last rfl
      (Opens.slice Tryd.underlying66 (by kernel_rfl) (by decide) opens_en))))))))).conv
    (fun p => (⟨p.1, p.2.1, ⟨p.2.2.1, p.2.2.2.1, p.2.2.2.2⟩⟩ : Dl)) (fun a h => ⟨rfl, h.2.2.2.2.2, h.2.2.2.2.1⟩)
theorem opens_tk {W : World} : Opens enc Tryd.prog W 27 3 tkC TkIn :=
  (Opens.struct Tryd.underlying27 (by kernel_rfl) (.cons rfl (.int Tryd.underlying3 (by kernel_rfl)) (.cons rfl (Opens.slice Tryd.underlying24 (by kernel_rfl) (by decide) opens_dg) (.last rfl
    (Opens.slice Tryd.underlying25 (by kernel_rfl) (by decide) opens_dl))))).conv
    (fun p => (⟨p.1, p.2.1, p.2.2⟩ : Tk)) (fun a h => ⟨rfl, h.2.1.2, h.2.2.2, h.2.2.1⟩)
theorem rep_tk {W : World} {b0 : Nat} {v : Value} {d : DataW H} {ps : List MemPlace} (hval : Value.okWide Tryd.prog W .any b0 27 v) (hd : DataW.Trod enc Tryd.prog W 0 (fun _ => true) true 27 v d ps) :
    ∃ t : Tk, Rep W [] noP (.agg (tkC t)) v ∧ TkIn t :=
  opens_tk.agg (by kernel_rfl) hval hd

/-- A struct of two truth values. -/
theorem two_bools {P : Program} {w : World} {base : Nat} {sp : Nat → Bool} {held : Bool} {fuel : Nat} {t tb : TypeId} {f g : Field} {cs : List Value} {x : DataW H × List MemPlace} {a b : Bool} (ht : P.underlying t = some (.struct #[f, g])) (hb : P.underlying tb = some .bool) (hc : P.cellsOf tb = 1) (hct : P.cellsOf t = 2)
    (hf : f.type = tb ∧ f.offset = 0) (hg : g.type = tb ∧ g.offset = 1) (h : DataW.trod enc P w base sp held fuel t cs = some x) (hx : x.1 = .agg [.lit (.bool a), .lit (.bool b)]) : cs = [.bool a, .bool b] := by
  obtain ⟨xs, n, rfl, rfl, hl, hxl, hall⟩ := DataW.trod_struct ht h
  rw [hct] at hl
  obtain ⟨c0, c1, rfl⟩ : ∃ c0 c1, cs = [c0, c1] := by
    match cs, hl with
    | [c0, c1], _ => exact ⟨c0, c1, rfl⟩
  obtain ⟨x0, x1, rfl⟩ : ∃ x0 x1, xs = [x0, x1] := by
    match xs, hxl with
    | [x0, x1], _ => exact ⟨x0, x1, rfl⟩
  have h0 := hall 0 f rfl
  have h1 := hall 1 g rfl
  rw [hf.1, hf.2, hc] at h0
  rw [hg.1, hg.2, hc] at h1
  obtain ⟨b0, e0, e0'⟩ := DataW.trod_bool hb h0
  obtain ⟨b1, e1, e1'⟩ := DataW.trod_bool hb h1
  simp at e0 e1 hx
  subst e0; subst e1; subst e0'; subst e1'
  simp at hx
  rw [hx.1, hx.2]
theorem list16 {α : Type} {l : List α} (h : l.length = 16) : ∃ a0 a1 a2 a3 a4 a5 a6 a7 a8 a9 b0 b1 b2 b3 b4 b5, l = [a0, a1, a2, a3, a4, a5, a6, a7, a8, a9, b0, b1, b2, b3, b4, b5] := by
  match l, h with
  | [a0, a1, a2, a3, a4, a5, a6, a7, a8, a9, b0, b1, b2, b3, b4, b5], _ => exact ⟨a0, a1, a2, a3, a4, a5, a6, a7, a8, a9, b0, b1, b2, b3, b4, b5, rfl⟩
theorem glob_of_reads {W : World} (h : VarReads Tryd.prog W "bellwether/message.shapes" Rows.laid_bellwether_message_shapes) : Glob W := by
  obtain ⟨g, t, cs, fuel, p, h1, h2, h3, h4⟩ := h
  obtain rfl : g = 0 := (Option.some.inj ((show Tryd.prog.globalNamed "bellwether/message.shapes" = some 0 by kernel_rfl).symm.trans h1)).symm
  obtain rfl : t = 85 := (Option.some.inj ((show (Tryd.prog.globals[0]?).map (·.type) = some 85 by kernel_rfl).symm.trans h2)).symm
  obtain ⟨xs, n, rfl, hx, hl, hxl, hall⟩ := DataW.trod_array Tryd.underlying85 h4
  rw [show Tryd.prog.cellsOf 85 = 16 by kernel_rfl] at hl
  have hds : xs.map (·.1) = [.agg [.lit (.bool false), .lit (.bool false)], .agg [.lit (.bool true), .lit (.bool false)], .agg [.lit (.bool true), .lit (.bool true)], .agg [.lit (.bool false), .lit (.bool true)], .agg [.lit (.bool false), .lit (.bool false)], .agg [.lit (.bool false), .lit (.bool false)], .agg [.lit (.bool false), .lit (.bool false)], .agg [.lit (.bool false), .lit (.bool false)]] := by
    have := congrArg Prod.fst hx
    unfold Rows.laid_bellwether_message_shapes at this
    injection this with this
    exact this.symm
  have part : ∀ (i : Nat) (a b : Bool), i < 8 → (xs.map (·.1))[i]? = some (.agg [.lit (.bool a), .lit (.bool b)]) → (cs.toList.drop (i * 2)).take 2 = [.bool a, .bool b] := fun i a b hi hd => by
    have h5 := hall i hi
    rw [show Tryd.prog.cellsOf 55 = 2 by kernel_rfl] at h5
    rw [List.getElem?_map] at hd
    obtain ⟨x, hx1, hx2⟩ := Option.map_eq_some_iff.1 hd
    rw [hx1] at h5
    exact two_bools Tryd.underlying55 Tryd.underlying4 (by kernel_rfl) (by kernel_rfl) ⟨rfl, rfl⟩ ⟨rfl, rfl⟩ h5 hx2
  rw [hds] at part
  have q0 := part 0 _ _ (by omega) rfl
  have q1 := part 1 _ _ (by omega) rfl
  have q2 := part 2 _ _ (by omega) rfl
  have q3 := part 3 _ _ (by omega) rfl
  have q4 := part 4 _ _ (by omega) rfl
  have q5 := part 5 _ _ (by omega) rfl
  have q6 := part 6 _ _ (by omega) rfl
  have q7 := part 7 _ _ (by omega) rfl
  obtain ⟨a0, a1, a2, a3, a4, a5, a6, a7, a8, a9, b0, b1, b2, b3, b4, b5, he⟩ := list16 hl
  rw [he] at q0 q1 q2 q3 q4 q5 q6 q7
  simp at q0 q1 q2 q3 q4 q5 q6 q7
  obtain ⟨rfl, rfl⟩ := q0
  obtain ⟨rfl, rfl⟩ := q1
  obtain ⟨rfl, rfl⟩ := q2
  obtain ⟨rfl, rfl⟩ := q3
  obtain ⟨rfl, rfl⟩ := q4
  obtain ⟨rfl, rfl⟩ := q5
  obtain ⟨rfl, rfl⟩ := q6
  obtain ⟨rfl, rfl⟩ := q7
  have hblk : ∃ e fr, W.heap[(0 : Nat)]? = some (.cells cs e fr) := by
    unfold World.var? at h3
    rw [h1] at h3
    simp only [Option.bind_some] at h3
    split at h3
    · rename_i c e fr hh
      injection h3 with h3
      subst h3
      exact ⟨e, fr, hh⟩
    · cases h3
  obtain ⟨e, fr, hblk⟩ := hblk
  have hgv : gvals 0 = cs.toList := he.symm
  intro g j v hv
  by_cases hg : g = 0
  · subst hg
    rw [hgv] at hv
    refine ⟨(Array.getElem?_eq_some_iff.1 hblk).1, ?_, ?_⟩
    · simp only [World.cell?, hblk]
      rw [Array.getElem?_toList] at hv
      exact hv
    · rw [he] at hv
      have hm := List.mem_of_getElem? hv
      simp only [List.mem_cons, List.not_mem_nil, or_false] at hm
      rcases hm with rfl | rfl | rfl | rfl | rfl | rfl | rfl | rfl | rfl | rfl | rfl | rfl | rfl | rfl | rfl | rfl <;> rfl
  · unfold gvals at hv
    rw [if_neg hg] at hv
    simp at hv
theorem glob_of_laid {W : World} (h : laidMetH Tryd.prog [("bellwether/message.shapes", Rows.laid_bellwether_message_shapes)] W) : Glob W := by
  rw [MakeChecks.laidMetH_plain _ _ _ (by kernel_rfl)] at h
  exact glob_of_reads (laidMet.reads h (by simp))

end Go.Proofs.YtjkdahpoalnjjaaDoor.VL

/- The value logic, part 7: copy, make, closures. -/
import Derived.Test.YtnlmdeeadldgmaaGreatDoorZVLOps5
import Derived.Laws.MakeOwn
import Derived.Test.YtnlmdeeadldgmaaGreatDoorZVLOps4
set_option linter.unusedVariables false
set_option linter.unusedSimpArgs false
namespace Go.Proofs.YtnlmdeeadldgmaaGreatDoor.VL
open Go Go.RowKit Go.Lib

section ops
variable {P : Program} {ρ : Operand → Value} {A : Operand → AV} {o : Oper} {base : Nat} {w : World} {H : List Box} {β : Pl}

theorem fc_len (sz m n1 n2 c1 c2 : Nat) (a : Option Addr) : Builtin.firstCells sz m (.slice a n1 c1) = Builtin.firstCells sz m (.slice a n2 c2) := by cases a <;> rfl

/-- The first rows of what is read. -/
theorem src_take {x : AV} {v : Value} {sz m : Nat} {gs : List (List AV)} (hI : Inv base w H β) (hx : Rep w H β x v) (h : asrc sz H x = some gs) (hm : m ≤ gs.length) :
    ∃ vs, Rows' w H β sz (gs.take m) vs ∧ (Builtin.firstCells sz m v).run P w = .ok vs.toArray w := by
  unfold asrc at h
  split at h
  · rename_i s gs'
    split at h
    · rename_i hs
      subst hs
      injection h with h
      subst h
      obtain ⟨a, cap, rfl⟩ : ∃ a cap, v = .slice a gs'.length cap := by
        cases hx with
        | lst0 _ a cap => exact ⟨a, cap, by simp⟩
        | lst _ _ k s cap y hn hg hc hr => exact ⟨_, cap, rfl⟩
      have hp := rep_lst_part hx (Nat.zero_le m) hm cap (by omega)
      simp only [List.drop_zero, Nat.sub_zero, Nat.zero_mul] at hp
      obtain ⟨_, vs, h1, h2⟩ := src_run (P := P) (sz := s) (gs := gs'.take m) hI hp (by simp [asrc])
      refine ⟨vs, h1, ?_⟩
      have hl : (gs'.take m).length = m := by simp; omega
      rw [hl] at h2
      have := h2 w (fun _ _ _ => rfl)
      rw [fc_len s m gs'.length m cap cap a]
      cases a with
      | none => simpa using this
      | some a =>
        by_cases h0 : cap = 0
        · rw [if_pos h0] at this; exact this
        · rw [if_neg h0] at this
          simpa [Addr.add] using this
    · cases h
  · injection h with h
    subst h
    obtain rfl : m = 0 := by simpa using hm
    obtain ⟨_, vs, h1, h2⟩ := src_run (P := P) (sz := sz) hI hx rfl
    exact ⟨vs, by simpa using h1, h2 w (fun _ _ _ => rfl)⟩
  · rename_i b g off n s full
    split at h
    · rename_i bx hb
      split at h
      · rename_i hc
        obtain ⟨hg, rfl, hfit⟩ := hc
        injection h with h
        subst h
        rw [chunk_length] at hm
        obtain ⟨bx', e1, e2, a, cap, rfl, e4, e5, e6⟩ := live_sl (by simp [live, hb, hg]) hx
        rw [hb] at e1
        obtain rfl := Option.some.inj e1
        have hp : Rep w H β (.sl b g off m s false) (.slice a m cap) := rep_sl hb hg ⟨a, cap, rfl, by omega, by simp, e6⟩
        have hle : m * s ≤ n * s := Nat.mul_le_mul_right _ hm
        obtain ⟨_, vs, h1, h2⟩ := src_run (P := P) (sz := s) (gs := chunk s m (bx.cells.drop off)) hI hp (by simp only [asrc, hb]; rw [if_pos ⟨hg, by simp, by omega⟩])
        rw [chunk_length] at h2
        have htake : ∀ (n m : Nat) (cs : List AV), m ≤ n → (chunk s n cs).take m = chunk s m cs := by
          intro n
          induction n with
          | zero => intro m cs h; obtain rfl : m = 0 := by omega
                    rfl
          | succ n ih =>
            intro m cs h
            cases m with
            | zero => rfl
            | succ m => simp only [chunk, List.take_succ_cons, ih m _ (by omega)]
        refine ⟨vs, by rw [htake n m _ hm]; exact h1, ?_⟩
        have := h2 w (fun _ _ _ => rfl)
        cases a <;> exact this
      · cases h
    · cases h
  · rename_i s
    split at h
    · rename_i hsz
      subst hsz
      injection h with h
      subst h
      cases hx
      have hms : m ≤ s.size := by simpa [bytesG] using hm
      obtain ⟨_, vs, h1, h2⟩ := src_run (P := P) (sz := 1) (x := .v (.string (s.extract 0 m))) hI (.v _) rfl
      have hd : (s.extract 0 m).data.toList = s.data.toList.take m := by simp
      have hl : (bytesG (s.extract 0 m).data.toList).length = m := by simp [bytesG]; omega
      rw [hl] at h2
      refine ⟨vs, ?_, ?_⟩
      · rw [hd] at h1
        simpa [bytesG, List.map_take] using h1
      · have := h2 w (fun _ _ _ => rfl)
        have he : (s.extract 0 m).extract 0 m = s.extract 0 m := by
          apply ByteArray.ext
          simp [ByteArray.data_extract]
        simp only [Builtin.firstCells, he] at this ⊢
        exact this
    · cases h
  · cases h

def acopy (P : Program) (t : TypeId) (H : List Box) (d x : AV) : Option (AV × List Box) :=
  match elemTy P t, d with
  | some e, .sl b g off n sz _ => match H[b]?, asrc sz H x with
    | some bx, some gs =>
      if bx.gen = g ∧ sz = P.cellsOf e ∧ off + n * sz ≤ bx.cells.length ∧ bx.ro ≤ off then
        some (.v (.int .i64 ((min gs.length n : Nat) : Int)), H.set b { bx with cells := splice bx.cells off (flat (gs.take (min gs.length n))) }) else none
    | _, _ => none
  | _, _ => none

theorem does_copy (hI : Inv base w H β) (hA : ∀ x, Rep w H β (A x) (ρ x)) {t t2 : TypeId} {s x : Operand} (ho : o.op = .call { callee := .builtin .copy, args := #[s, x], argTypes := #[t, t2] })
    {r : AV} {H' : List Box} (h : acopy P t H (A s) (A x) = some (r, H')) : Does P ρ o base w H β r H' := by
  have hs := hA s
  have hx := hA x
  have key : ∀ v w', (Builtin.copy_ #[t, t2] o.type #[ρ s, ρ x]).run P w = .ok v w' → (execOp ρ o).run P w = .ok (.value v) w' := fun v w' hv => by
    simp [execOp, ho, resolve, invoke, builtin, hv]
  unfold acopy at h
  split at h
  · rename_i e b g off n sz full he hAs
    obtain ⟨hu, d, hd⟩ := elemTy_spec he
    rw [hAs] at hs
    split at h
    · rename_i bx gs hb hgs
      split at h
      · rename_i hc
        obtain ⟨hg, hsz, hfit, hro⟩ := hc
        injection h with h
        injection h with e1 e2
        subst e1; subst e2
        obtain ⟨bx', d1, d2, a, cap, hv, e4, e5, e6⟩ := live_sl (by simp [live, hb, hg]) hs
        rw [hb] at d1
        obtain rfl := Option.some.inj d1
        obtain ⟨hlen, _⟩ := src_run (P := P) hI hx hgs
        obtain ⟨vs, h1, h2⟩ := src_take (P := P) hI hx hgs (Nat.min_le_left gs.length n)
        obtain ⟨f1, f2⟩ := h1.flat
        have hvl := h1.1
        have hln : (gs.take (min gs.length n)).length = min gs.length n := by simp
        rw [hln] at hvl
        have hmn : min gs.length n ≤ n := Nat.min_le_right _ _
        have hmul : min gs.length n * sz ≤ n * sz := Nat.mul_le_mul_right _ hmn
        by_cases h0 : min gs.length n = 0
        · have hvs : vs = [] := List.eq_nil_of_length_eq_zero (by rw [hvl, h0]; simp)
          subst hvs
          have hfl : flat (gs.take (min gs.length n)) = [] := List.eq_nil_of_length_eq_zero (by rw [← f1]; rfl)
          rw [hfl]
          have hset : H.set b { bx with cells := splice bx.cells off [] } = H := by
            simp only [splice]
            apply List.ext_getElem?
            intro i
            by_cases hi : i = b
            · subst hi
              rw [List.getElem?_set_self (List.getElem?_eq_some_iff.1 hb).1, hb]
            · rw [List.getElem?_set_ne (Ne.symm hi)]
          rw [hset]
          refine .same hI (v := .int .i64 ((min gs.length n : Nat) : Int)) (key _ _ ?_) (.v _)
          rw [hv]
          rw [h0] at h2 ⊢
          have hs0 : P.cellsOf e = sz := hsz.symm
          cases a <;> simp [Builtin.copy_, run_underlying hu, hlen, run_sizeOf' hd, hs0, h0, h2, storeCells, goInt]
        · obtain ⟨k, st, c, et, fr, f3, f4, f5, f6⟩ := e6 (by omega)
          subst f4
          obtain ⟨r1, r2, r3⟩ := write_box (P := P) (o' := off) hI hb f3 (flat (gs.take (min gs.length n))) vs f1 (fun i d y hd hy => by
            obtain ⟨y', y1, y2, y3⟩ := f2 i d hd
            rw [hy] at y1
            obtain rfl := Option.some.inj y1
            exact y3) h1.2.1 hro (by omega)
          refine ⟨.int .i64 ((min gs.length n : Nat) : Int), _, β, .inl (key _ _ ?_), r2, r3, .v _⟩
          rw [hv]
          have hs0 : P.cellsOf e = sz := hsz.symm
          simp [Builtin.copy_, run_underlying hu, hlen, run_sizeOf' hd, hs0, h2, r1, goInt]
      · cases h
    · cases h
  · cases h

def amake (P : Program) (t : TypeId) (H : List Box) (l c : AV) : Option (AV × List Box) :=
  match elemTy P t, l, c with
  | some e, .v (.int _ l), .v (.int _ c) => match zeroCs P e with
    | some z => if 0 ≤ l ∧ l ≤ c ∧ c * P.bytesOf e ≤ 140737488355328 ∧ c ≤ 140737488355328 ∧ z.length = P.cellsOf e then
        some (.sl H.length 0 0 l.toNat (P.cellsOf e) (decide (l = c)), H ++ [⟨flat (List.replicate l.toNat z), 0, 0, true⟩]) else none
    | none => none
  | _, _, _ => none

theorem zero_full {e : TypeId} {z : List AV} (h : zeroCs P e = some z) : ∃ i z', P.info? e = some i ∧ i.zero = some z' ∧ i.size = P.cellsOf e ∧ i.bytes = P.bytesOf e ∧ z = z'.cells.toList.map zcell ∧ ∀ (i : Nat) (y : Value), z'.cells[i]? = some y → y.oneCell' = true := by
  unfold zeroCs at h
  obtain ⟨z', h1, h2⟩ := Option.bind_eq_some_iff.1 h
  obtain ⟨i, h3, h4⟩ := Option.bind_eq_some_iff.1 h1
  split at h2
  · rename_i hall
    injection h2 with h2
    exact ⟨i, z', h3, h4, by simp [Program.cellsOf, h3], by simp [Program.bytesOf, h3], h2.symm, fun i y hy => List.all_eq_true.1 hall y (by
      rw [← Array.getElem?_toList] at hy
      exact List.mem_of_getElem? hy)⟩
  · cases h2
theorem does_make (hI : Inv base w H β) (hA : ∀ x, Rep w H β (A x) (ρ x)) {t : TypeId} {l c : Operand} (ho : o.op = .makeSlice t l c) {r : AV} {H' : List Box} (h : amake P t H (A l) (A c) = some (r, H')) : Does P ρ o base w H β r H' := by
  have hl := hA l
  have hc := hA c
  unfold amake at h
  split at h
  · rename_i e lk li ck ci he hAl hAc
    obtain ⟨hu, d, hd⟩ := elemTy_spec he
    rw [hAl] at hl
    rw [hAc] at hc
    split at h
    · rename_i z hz
      split at h
      · rename_i hcond
        obtain ⟨h0, hlc, hbd, hc47, hzl⟩ := hcond
        injection h with h
        injection h with e1 e2
        subst e1; subst e2
        generalize hvl : ρ l = vl at hl
        generalize hvc : ρ c = vc at hc
        cases hl
        cases hc
        obtain ⟨i0, zv, hi, hiz, hsz, hby, z2, z3⟩ := zero_full hz
        obtain ⟨ln, rfl⟩ := Int.eq_ofNat_of_zero_le h0
        obtain ⟨cn, rfl⟩ := Int.eq_ofNat_of_zero_le (Int.le_trans h0 hlc)
        have hzsz : zv.cells.size = P.cellsOf e := by
          have := congrArg List.length z2
          simp at this
          omega
        have hrun := run_make (P := P) w t e i0 zv hu hi hiz lk ck ln cn (by omega) hlc (by rw [hby, Int.mul_comm]; omega) (by omega)
        rw [Int.toNat_natCast, Int.toNat_natCast, hsz] at hrun
        obtain ⟨C, hC⟩ : ∃ C, C = madeCells zv.cells (cn * P.cellsOf e) := ⟨_, rfl⟩
        rw [← hC] at hrun
        have hCsz : C.size = cn * P.cellsOf e := by rw [hC, size_madeCells]
        have hln : ln ≤ cn := by omega
        have hmul : ln * P.cellsOf e ≤ cn * P.cellsOf e := Nat.mul_le_mul_right _ hln
        have hrep : ∀ (i : Nat) (g : List AV), (List.replicate ln z)[i]? = some g → g.length = P.cellsOf e := fun i g hg => by
          rw [List.getElem?_replicate] at hg
          split at hg
          · injection hg with hg; rw [← hg]; exact hzl
          · cases hg
        have hfl := flat_length hrep
        simp only [List.length_replicate] at hfl
        obtain ⟨g1, g2⟩ := newb hI C e ⟨flat (List.replicate ln z), 0, 0, true⟩ (Nat.zero_le _) (fun j c hj => by
          obtain ⟨i, k, g, q1, q2, rfl⟩ := flat_get hrep j c hj
          rw [List.getElem?_replicate] at q1
          split at q1
          · rename_i hil
            injection q1 with q1
            subst q1
            have hkl := (List.getElem?_eq_some_iff.1 q2).1
            have hlt : i * P.cellsOf e + k < cn * P.cellsOf e := by
              have : (i + 1) * P.cellsOf e ≤ cn * P.cellsOf e := Nat.mul_le_mul_right _ (by omega)
              rw [Nat.add_mul] at this
              omega
            have hmod : (i * P.cellsOf e + k) % zv.cells.size = k := by rw [hzsz, Nat.mul_comm, Nat.mul_add_mod]; exact Nat.mod_eq_of_lt (by omega)
            have hk : k < zv.cells.size := by omega
            have hCk : C[i * P.cellsOf e + k]? = some zv.cells[k] := by
              rw [hC, madeCells, Array.getElem?_map, Array.getElem?_range, if_pos hlt, Option.map_some, hmod, getElem!_pos zv.cells k hk]
            refine ⟨zv.cells[k], hCk, z3 k _ (Array.getElem?_eq_getElem hk), ?_⟩
            rw [z2] at q2
            simp only [List.getElem?_map, Array.getElem?_toList, Array.getElem?_eq_getElem hk, Option.map_some, Option.some.injEq] at q2
            rw [← q2]
            exact rep_zcell _
          · cases q1)
        refine ⟨.slice (some ⟨w.heap.size, 0, none⟩) ln cn, _, _, .inl ?_, g1, g2, rep_sl (bx := ⟨flat (List.replicate ln z), 0, 0, true⟩) (by simp) rfl ⟨_, cn, rfl, hln, fun hf => by simp at hf; omega, fun hh => ⟨w.heap.size, 0, C, e, (0, 0), upd_same _ _ _, rfl, ?_, ?_⟩⟩⟩
        · simp only [execOp, ho, hvl, hvc, Sem.run_bind, hrun, Result.andThen_ok, Sem.run_pure]
        · show (w.heap.push (Obj.cells C e))[w.heap.size]? = _
          rw [Array.getElem?_push_size]
        · rw [hCsz]; omega
      · cases h
    · cases h
  · cases h

def acaps (A : Operand → AV) (cs : Array Operand) : List AV := cs.toList.map A
theorem does_makeFunc (hI : Inv base w H β) (hA : ∀ x, Rep w H β (A x) (ρ x)) {f : FuncId} {cs : Array Operand} (ho : o.op = .makeFunc (.func f) #[] cs) : Does P ρ o base w H β (.fn f (acaps A cs)) H := by
  refine .same hI (v := .func (.func f) #[] (cs.map ρ)) (by simp [execOp, ho, Instr.makeFunc]) (.fn f _ _ (by simp [acaps]) fun i c x h1 h2 => ?_)
  simp only [acaps, List.getElem?_map] at h1
  rw [Array.getElem?_map] at h2
  cases hq : cs[i]? with
  | none => rw [hq] at h2; cases h2
  | some y =>
    rw [hq] at h2
    rw [Array.getElem?_toList, hq] at h1
    simp only [Option.map_some, Option.some.injEq] at h1 h2
    subst h1; subst h2
    exact hA y

end ops
end Go.Proofs.YtnlmdeeadldgmaaGreatDoor.VL

/- The value logic, part 5b: a row that is only read is appended to: what was there may be read on. -/
set_option linter.unusedVariables false
set_option linter.unusedSimpArgs false
namespace Go.Proofs.YtnlmdeeadldgmaaGreatDoor.VL
open Go Go.RowKit Go.Lib

def shareB (H : List Box) (b off : Nat) (bx : Box) : List Box := H.set b ⟨bx.cells, bx.ro, bx.gen, false⟩ ++ [⟨bx.cells.drop off, bx.cells.length - off, 0, true⟩]
def shareP (H : List Box) (β : Pl) (b off : Nat) : Pl := fun i => if i = H.length then (β b).map (fun p => (p.1, p.2 + off)) else β i

theorem share_inv {base : Nat} {w : World} {H : List Box} {β : Pl} {b off : Nat} {bx : Box} (hI : Inv base w H β) (hb : H[b]? = some bx) (hro : bx.ro = bx.cells.length) (hgrow : bx.grow = true) (hoff : off ≤ bx.cells.length) :
    Inv base w (shareB H b off bx) (shareP H β b off) ∧ Stp base w H β w (shareB H b off bx) (shareP H β b off) := by
  have hbl : b < H.length := (List.getElem?_eq_some_iff.1 hb).1
  have hβn : shareP H β b off H.length = (β b).map (fun p => (p.1, p.2 + off)) := by simp [shareP]
  have hβo : ∀ i, i < H.length → shareP H β b off i = β i := fun i hi => by simp [shareP, show i ≠ H.length by omega]
  have hget : ∀ i bx1, (shareB H b off bx)[i]? = some bx1 → (i = H.length ∧ bx1 = ⟨bx.cells.drop off, bx.cells.length - off, 0, true⟩) ∨ (i = b ∧ bx1 = ⟨bx.cells, bx.ro, bx.gen, false⟩) ∨ (i < H.length ∧ i ≠ b ∧ H[i]? = some bx1) := by
    intro i bx1 h
    unfold shareB at h
    rcases Nat.lt_trichotomy i H.length with hi | hi | hi
    · rw [List.getElem?_append_left (by simpa using hi)] at h
      by_cases hib : i = b
      · subst hib
        rw [List.getElem?_set_self hbl] at h
        exact .inr (.inl ⟨rfl, (Option.some.inj h).symm⟩)
      · rw [List.getElem?_set_ne (Ne.symm hib)] at h
        exact .inr (.inr ⟨hi, hib, h⟩)
    · subst hi
      rw [List.getElem?_append_right (by simp)] at h
      simp at h
      exact .inl ⟨rfl, h.symm⟩
    · rw [List.getElem?_append_right (by simp; omega)] at h
      simp only [List.length_set] at h
      have : i - H.length ≠ 0 := by omega
      simp [this] at h
  have hmap : ∀ k s, (β b).map (fun p => (p.1, p.2 + off)) = some (k, s) → ∃ s0, β b = some (k, s0) ∧ s = s0 + off := fun k s h => by
    obtain ⟨⟨k0, s0⟩, h1, h2⟩ := Option.map_eq_some_iff.1 h
    injection h2 with h3 h4
    subst h3
    exact ⟨s0, h1, h4.symm⟩
  have hwr : ∀ k x, Wr (shareB H b off bx) (shareP H β b off) k x → Wr H β k x := by
    rintro k x ⟨i, bi, s, h1, h2, h3, h4⟩
    rcases hget i bi h1 with ⟨rfl, rfl⟩ | ⟨rfl, rfl⟩ | ⟨hi, hib, h1⟩
    · rw [hβn] at h2
      obtain ⟨s0, e1, rfl⟩ := hmap k s h2
      exact ⟨b, bx, s0, hb, e1, by dsimp only at h3; omega, .inl hgrow⟩
    · rw [hβo i hbl] at h2
      dsimp only at h3 h4
      rcases h4 with h4 | h4
      · cases h4
      · omega
    · rw [hβo i hi] at h2
      exact ⟨i, bi, s, h1, h2, h3, h4⟩
  have hst : Stp base w H β w (shareB H b off bx) (shareP H β b off) :=
    ⟨rfl, rfl, rfl, Nat.le_refl _, fun _ c _ fr h => ⟨c, fr, h, rfl, fun _ => rfl, fun h _ => h⟩, fun _ _ h _ => h, fun _ _ _ _ => rfl, fun k x _ h => hwr k x h, fun i bi hi => by
      have hil := (List.getElem?_eq_some_iff.1 hi).1
      by_cases hib : i = b
      · subst hib
        rw [hb] at hi
        obtain rfl := Option.some.inj hi
        exact ⟨⟨bx.cells, bx.ro, bx.gen, false⟩, by unfold shareB; rw [List.getElem?_append_left (by simpa using hbl), List.getElem?_set_self hbl], Nat.le_refl _, fun _ => hβo i hbl⟩
      · exact ⟨bi, by unfold shareB; rw [List.getElem?_append_left (by simpa using hil), List.getElem?_set_ne (Ne.symm hib)]; exact hi, Nat.le_refl _, fun _ => hβo i hil⟩⟩
  refine ⟨⟨hI.bse, fun i bi hi => ?_, fun i bi hi hv => ?_, fun i bi k s hi hl => ?_, fun i bi k s hi hl j c hj => ?_, fun k x h hc => hI.free k x (hwr k x h) hc, fun i i' bi bi' k s s' x hne hi hi' hl hl' h1 h2 h3 h4 => ?_⟩, hst⟩
  · rcases hget i bi hi with ⟨rfl, rfl⟩ | ⟨rfl, rfl⟩ | ⟨hil, hib, h⟩
    · simp
    · exact hI.ro i bx hb
    · exact hI.ro i bi h
  · rcases hget i bi hi with ⟨rfl, rfl⟩ | ⟨rfl, rfl⟩ | ⟨hil, hib, h⟩
    · rw [hβn] at hv
      have := hI.virt b bx hb (by simpa using hv)
      simp [this]
    · rw [hβo i hbl] at hv
      exact hI.virt i bx hb hv
    · rw [hβo i hil] at hv
      exact hI.virt i bi h hv
  · rcases hget i bi hi with ⟨rfl, rfl⟩ | ⟨rfl, rfl⟩ | ⟨hil, hib, h⟩
    · rw [hβn] at hl
      obtain ⟨s0, e1, rfl⟩ := hmap k s hl
      exact hI.real b bx k s0 hb e1
    · rw [hβo i hbl] at hl
      exact hI.real i bx k s hb hl
    · rw [hβo i hil] at hl
      exact hI.real i bi k s h hl
  · rcases hget i bi hi with ⟨rfl, rfl⟩ | ⟨rfl, rfl⟩ | ⟨hil, hib, h⟩
    · rw [hβn] at hl
      obtain ⟨s0, e1, rfl⟩ := hmap k s hl
      dsimp only at hj
      rw [List.getElem?_drop] at hj
      obtain ⟨x, g1, g0, g2⟩ := hI.cells b bx k s0 hb e1 _ c hj
      exact ⟨x, by rw [Nat.add_assoc]; exact g1, g0, g2.stp hst⟩
    · rw [hβo i hbl] at hl
      obtain ⟨x, g1, g0, g2⟩ := hI.cells i bx k s hb hl j c hj
      exact ⟨x, g1, g0, g2.stp hst⟩
    · rw [hβo i hil] at hl
      obtain ⟨x, g1, g0, g2⟩ := hI.cells i bi k s h hl j c hj
      exact ⟨x, g1, g0, g2.stp hst⟩
  · rcases hget i bi hi with ⟨rfl, rfl⟩ | ⟨rfl, rfl⟩ | ⟨hil, hib, h⟩
    · rw [hβn] at hl
      obtain ⟨s0, e1, rfl⟩ := hmap k s hl
      dsimp only at h1
      rcases hget i' bi' hi' with ⟨rfl, rfl⟩ | ⟨rfl, rfl⟩ | ⟨hil', hib', h'⟩
      · exact hne rfl
      · rw [hβo i' hbl, e1] at hl'
        injection hl' with hl'
        injection hl' with _ hl'
        subst hl'
        dsimp only at h4
        rcases h4 with h4 | h4
        · cases h4
        · omega
      · rw [hβo i' hil'] at hl'
        exact hI.apart b i' bx bi' k s0 s' x (Ne.symm hib') hb h' e1 hl' (by omega) (.inl hgrow) h3 h4
    · dsimp only at h1 h2
      rcases h2 with h2 | h2
      · cases h2
      · omega
    · rw [hβo i hil] at hl
      rcases hget i' bi' hi' with ⟨rfl, rfl⟩ | ⟨rfl, rfl⟩ | ⟨hil', hib', h'⟩
      · rw [hβn] at hl'
        obtain ⟨s0, e1, rfl⟩ := hmap k s' hl'
        exact hI.apart i b bi bx k s s0 x hib h hb hl e1 h1 h2 (by omega) (.inl hgrow)
      · rw [hβo i' hbl] at hl'
        exact hI.apart i i' bi bx k s s' x hne h hb hl hl' h1 h2 h3 (.inl hgrow)
      · rw [hβo i' hil'] at hl'
        exact hI.apart i i' bi bi' k s s' x hne h h' hl hl' h1 h2 h3 h4

def noBox : AV → Bool
  | .lst _ _ => true
  | .emp => true
  | .v _ => true
  | _ => false
/-- Append; behind cells that are only read they may be read on. -/
def aappend' (P : Program) (t : TypeId) (H : List Box) (s x : AV) : Option (AV × List Box) :=
  match s with
  | .sl b g off n sz false => match H[b]? with
    | some bx => if 0 < bx.ro ∧ 0 < n ∧ bx.gen = g ∧ off + n * sz = bx.cells.length ∧ bx.ro = bx.cells.length ∧ bx.grow = true ∧ noBox x = true then
        aappend P t (shareB H b off bx) (.sl H.length 0 0 n sz false) x
      else aappend P t H (.sl b g off n sz false) x
    | none => none
  | s => aappend P t H s x

theorem does_append' {P : Program} {A : Operand → AV} {ρ : Operand → Value} {o : Oper} {base : Nat} {w : World} {H : List Box} {β : Pl} (hI : Inv base w H β) (hA : ∀ x, Rep w H β (A x) (ρ x)) {t t2 : TypeId} {s x : Operand} (ho : o.op = .call { callee := .builtin .append, args := #[s, x], argTypes := #[t, t2] })
    (h2 : notInt P t2 = true) {r : AV} {H' : List Box} (h : aappend' P t H (A s) (A x) = some (r, H')) : Does P ρ o base w H β r H' := by
  unfold aappend' at h
  split at h
  · rename_i b g off n sz hAs
    split at h
    · rename_i bx hb
      split at h
      · rename_i hc
        obtain ⟨_, hn, hg, hend, hro, hgrow, hno⟩ := hc
        obtain ⟨i1, i2⟩ := share_inv (off := off) hI hb hro hgrow (by omega)
        have hs := hA s
        rw [hAs] at hs
        obtain ⟨bx', d1, d2, a, cap, hv, e4, e5, e6⟩ := live_sl (by simp [live, hb, hg]) hs
        have hrep : Rep w (shareB H b off bx) (shareP H β b off) (.sl H.length 0 0 n sz false) (ρ s) := by
          refine rep_sl (bx := ⟨bx.cells.drop off, bx.cells.length - off, 0, true⟩) (by simp [shareB]) rfl ⟨a, cap, hv, e4, e5, fun hh => ?_⟩
          obtain ⟨k, st, c, et, fr, f1, f2, f3, f4⟩ := e6 hh
          exact ⟨k, st + off, c, et, fr, by simp [shareP, f1], by rw [f2]; rfl, f3, by omega⟩
        classical
        have hA' : ∀ y, Rep w (shareB H b off bx) (shareP H β b off) ((fun y => if y = s then .sl H.length 0 0 n sz false else A y) y) (ρ y) := fun y => by
          by_cases hy : y = s
          · subst hy; simpa using hrep
          · simpa [hy] using (hA y).stp i2
        have hxs : x ≠ s := fun e => by
          subst e
          rw [hAs] at hno
          cases hno
        obtain ⟨v, w', β', r1, r2, r3, r4⟩ := does_append (A := fun y => if y = s then .sl H.length 0 0 n sz false else A y) i1 hA' ho h2 (by simpa [hxs] using h)
        exact ⟨v, w', β', r1, r2, i2.trans r3, r4⟩
      · exact does_append hI hA ho h2 (by rw [hAs]; exact h)
    · cases h
  · exact does_append hI hA ho h2 h

end Go.Proofs.YtnlmdeeadldgmaaGreatDoor.VL

/- The value logic, part 6b: cells that are only read from now on; bytes of one's own as a string. -/
set_option linter.unusedVariables false
set_option linter.unusedSimpArgs false
namespace Go.Proofs.YtnlmdeeadldgmaaGreatDoor.VL
open Go Go.RowKit Go.Lib

/-- A box whose first cells are only read from now on. -/
theorem freeze_inv {base : Nat} {w : World} {H : List Box} {β : Pl} {b m : Nat} {bx : Box} (hI : Inv base w H β) (hb : H[b]? = some bx) (hm : m ≤ bx.cells.length) :
    Inv base w (H.set b { bx with ro := max bx.ro m }) β ∧ Stp base w H β w (H.set b { bx with ro := max bx.ro m }) β := by
  have hbl : b < H.length := (List.getElem?_eq_some_iff.1 hb).1
  have hget : ∀ i bx1, (H.set b { bx with ro := max bx.ro m })[i]? = some bx1 → (i = b ∧ bx1 = { bx with ro := max bx.ro m }) ∨ (i ≠ b ∧ H[i]? = some bx1) := by
    intro i bx1 h
    by_cases hi : i = b
    · subst hi
      rw [List.getElem?_set_self hbl] at h
      exact .inl ⟨rfl, (Option.some.inj h).symm⟩
    · rw [List.getElem?_set_ne (Ne.symm hi)] at h
      exact .inr ⟨hi, h⟩
  have hwr : ∀ k x, Wr (H.set b { bx with ro := max bx.ro m }) β k x → Wr H β k x := by
    rintro k x ⟨i, bi, s, h1, h2, h3, h4⟩
    rcases hget i bi h1 with ⟨rfl, rfl⟩ | ⟨hi, h1⟩
    · exact ⟨i, bx, s, hb, h2, by dsimp only at h3; have := Nat.le_max_left bx.ro m; omega, h4⟩
    · exact ⟨i, bi, s, h1, h2, h3, h4⟩
  have hst : Stp base w H β w (H.set b { bx with ro := max bx.ro m }) β :=
    ⟨rfl, rfl, rfl, Nat.le_refl _, fun _ c _ fr h => ⟨c, fr, h, rfl, fun _ => rfl, fun h _ => h⟩, fun _ _ h _ => h, fun _ _ _ _ => rfl, fun k x _ h => hwr k x h, fun i bi hi => by
      by_cases hib : i = b
      · subst hib
        rw [hb] at hi
        obtain rfl := Option.some.inj hi
        exact ⟨_, List.getElem?_set_self hbl, Nat.le_refl _, fun _ => rfl⟩
      · exact ⟨bi, by rw [List.getElem?_set_ne (Ne.symm hib)]; exact hi, Nat.le_refl _, fun _ => rfl⟩⟩
  refine ⟨⟨hI.bse, fun i bi hi => ?_, fun i bi hi hv' => ?_, fun i bi k s hi hl => ?_, fun i bi k s hi hl j c hj => ?_, fun k x h hc => hI.free k x (hwr k x h) hc, fun i i' bi bi' k s s' x hne hi hi' hl hl' h1 h2 h3 => ?_⟩, hst⟩
  · rcases hget i bi hi with ⟨rfl, rfl⟩ | ⟨_, h⟩
    · exact Nat.max_le.2 ⟨hI.ro _ bx hb, hm⟩
    · exact hI.ro i bi h
  · rcases hget i bi hi with ⟨rfl, rfl⟩ | ⟨hi', h⟩
    · exact hI.virt _ bx hb hv'
    · exact hI.virt i bi h hv'
  · rcases hget i bi hi with ⟨rfl, rfl⟩ | ⟨hi', h⟩
    · exact hI.real _ bx k s hb hl
    · exact hI.real i bi k s h hl
  · rcases hget i bi hi with ⟨rfl, rfl⟩ | ⟨hi', h⟩
    · obtain ⟨x, g1, g0, g2⟩ := hI.cells _ bx k s hb hl j c hj
      exact ⟨x, g1, g0, g2.stp hst⟩
    · obtain ⟨x, g1, g0, g2⟩ := hI.cells i bi k s h hl j c hj
      exact ⟨x, g1, g0, g2.stp hst⟩
  · have hle := Nat.le_max_left bx.ro m
    rcases hget i bi hi with ⟨rfl, rfl⟩ | ⟨hx, h⟩
    · rcases hget i' bi' hi' with ⟨rfl, rfl⟩ | ⟨hx', h'⟩
      · exact absurd rfl hne
      · exact hI.apart i i' bx bi' k s s' x hne hb h' hl hl' (by dsimp only at h1; omega) h2 h3
    · rcases hget i' bi' hi' with ⟨rfl, rfl⟩ | ⟨hx', h'⟩
      · exact hI.apart i i' bi bx k s s' x hne h hb hl hl' h1 h2 h3
      · exact hI.apart i i' bi bi' k s s' x hne h h' hl hl' h1 h2 h3

/-- What a slice over a box's read-only cells reads as. -/
theorem rep_view {base : Nat} {w : World} {H : List Box} {β : Pl} {b g off n sz : Nat} {full : Bool} {v : Value} {bx : Box} (hI : Inv base w H β) (hb : H[b]? = some bx) (hg : bx.gen = g) (hro : off + n * sz ≤ bx.ro) (hr : Rep w H β (.sl b g off n sz full) v) :
    Rep w H β (.lst sz (chunk sz n (bx.cells.drop off))) v := by
  obtain ⟨bx', e1, e2, a, cap, rfl, e4, e5, e6⟩ := live_sl (by simp [live, hb, hg]) hr
  rw [hb] at e1
  obtain rfl := Option.some.inj e1
  have hrl := hI.ro b bx hb
  by_cases hn : n = 0
  · subst hn
    exact .lst0 _ _ _
  · obtain ⟨k, s, c, et, fr, f1, f2, f3, f4⟩ := e6 (by omega)
    subst f2
    have hlen := chunk_length sz n (bx.cells.drop off)
    have hcell : ∀ (i j : Nat) (g : List AV) (c : AV), (chunk sz n (bx.cells.drop off))[i]? = some g → g[j]? = some c → i * sz + j < n * sz ∧ bx.cells[off + (i * sz + j)]? = some c := fun i j g c hi hj => by
      obtain ⟨h1, rfl⟩ := chunk_get _ _ _ _ _ hi
      have hjl := (List.getElem?_eq_some_iff.1 hj).1
      simp only [List.length_take] at hjl
      have : (i + 1) * sz ≤ n * sz := Nat.mul_le_mul_right _ h1
      rw [Nat.add_mul] at this
      rw [List.getElem?_take_of_lt (by omega), List.getElem?_drop, List.getElem?_drop] at hj
      exact ⟨by omega, by rw [← hj]⟩
    have := Rep.lst (w := w) (H := H) (β := β) sz (chunk sz n (bx.cells.drop off)) k (s + off) cap (fun i j => (w.cell? ⟨k, s + off + i * sz + j, none⟩).getD undef) (by rw [hlen]; exact e4)
      (fun i g hi => by
        obtain ⟨h1, rfl⟩ := chunk_get _ _ _ _ _ hi
        simp only [List.length_take, List.length_drop]
        have : (i + 1) * sz ≤ n * sz := Nat.mul_le_mul_right _ h1
        rw [Nat.add_mul] at this
        omega)
      (fun i j g c hi hj => by
        obtain ⟨h1, h2⟩ := hcell i j g c hi hj
        obtain ⟨x, g1, g2, _⟩ := hI.cells b bx k s hb f1 _ c h2
        have e : s + off + i * sz + j = s + (off + (i * sz + j)) := by omega
        rw [e, g1]
        refine ⟨rfl, g2, ?_⟩
        rintro ⟨i', bi, s', a1, a2, a3, a4⟩
        by_cases hib : i' = b
        · subst hib
          rw [hb] at a1
          obtain rfl := Option.some.inj a1
          rw [f1] at a2
          injection a2 with a2
          injection a2 with a5 a6
          omega
        · exact hI.apart i' b bi bx k s' s _ hib a1 hb a2 f1 a3 a4 (by omega) (.inr (by omega)))
      (fun i j g c hi hj => by
        obtain ⟨h1, h2⟩ := hcell i j g c hi hj
        obtain ⟨x, g1, _, g3⟩ := hI.cells b bx k s hb f1 _ c h2
        have e : s + off + i * sz + j = s + (off + (i * sz + j)) := by omega
        rw [e, g1]
        exact g3)
    rwa [hlen] at this


section ops
variable {P : Program} {ρ : Operand → Value} {A : Operand → AV} {o : Oper} {base : Nat} {w : World} {H : List Box} {β : Pl}
theorem run_conv_lst {src dst e : TypeId} {x : Operand} {gs : List (List AV)} {bs : List UInt8} (hx : Rep w H β (.lst 1 gs) (ρ x)) (ho : o.op = .convert src dst x) (hs : P.underlying src = some (.slice e)) (hd : P.underlying dst = some .string) (he : P.underlying e = some (.int .u8))
    (h1 : bytesOf gs = some bs) : (execOp ρ o).run P w = .ok (.value (.string ⟨bs.toArray⟩)) w := by
  obtain ⟨xs, rfl, rfl⟩ := bytesOf_get gs bs h1
  generalize hv : ρ x = v at hx
  generalize hgs : xs.map (fun n => [AV.v (.int .u8 n)]) = gs at hx
  cases hx with
  | lst0 _ a cap =>
    obtain rfl : xs = [] := by cases xs with | nil => rfl | cons _ _ => simp at hgs
    have : (convert src dst (.slice a 0 cap)).run P w = .ok (.string ⟨#[]⟩) w := by
      rw [run_convert_bytes_string w src dst e _ 0 cap hs he hd]
      cases a with
      | none => simp [Conv.bytesToString]; rfl
      | some a => simp [Conv.bytesToString, loadCells, loadCellsFrom]; rfl
    simp only [execOp, ho, hv, Sem.run_bind, this, Result.andThen_ok, Sem.run_pure]
    rfl
  | lst _ _ k s cap y hn hg hc hr =>
    subst hgs
    have hcell : ∀ i, i < xs.length → w.cell? ⟨k, s + i, none⟩ = some (.int .u8 (xs.getD i 0)) := fun i hi => by
      have hgi : (xs.map fun n => [AV.v (.int .u8 n)])[i]? = some [AV.v (.int .u8 xs[i])] := by simp [hi]
      have h1 := (hc i 0 _ _ hgi rfl).1
      have h2 := hr i 0 _ _ hgi rfl
      generalize hy : y i 0 = z at h2 h1
      cases h2
      simpa [hi] using h1
    have := run_convert_bytes_arg (P := P) w src e hs he k s (xs.map fun n => [AV.v (.int .u8 n)]).length cap xs (by simp) (fun i hi => hcell i (by simpa using hi)) dst hd
    simp only [execOp, ho, hv, Sem.run_bind, this, Result.andThen_ok, Sem.run_pure]
    rfl

/-- Conversions; bytes of one's own too. -/
def aconvH (P : Program) (H : List Box) (src dst : TypeId) (x : AV) : Option AV :=
  match x with
  | .sl b g off n 1 _ => match P.underlying src, P.underlying dst with
    | some (.slice e), some .string => match P.underlying e with
      | some (.int .u8) => match H[b]? with
        | some bx => if bx.gen = g ∧ off + n ≤ bx.cells.length then (bytesOf (chunk 1 n (bx.cells.drop off))).map fun bs => .v (.string ⟨bs.toArray⟩) else none
        | none => none
      | _ => none
    | _, _ => none
  | x => aconv P src dst x
theorem does_convertH (hI : Inv base w H β) (hA : ∀ x, Rep w H β (A x) (ρ x)) {src dst : TypeId} {x : Operand} (ho : o.op = .convert src dst x) {r : AV} (h : aconvH P H src dst (A x) = some r) : Does P ρ o base w H β r H := by
  have hx := hA x
  unfold aconvH at h
  split at h
  · rename_i b g off n full hAx
    rw [hAx] at hx
    split at h
    · rename_i e hs hd
      split at h
      · rename_i he
        split at h
        · rename_i bx hb
          split at h
          · rename_i hc
            obtain ⟨hg, hfit⟩ := hc
            obtain ⟨bs, h1, rfl⟩ := Option.map_eq_some_iff.1 h
            obtain ⟨i1, i2⟩ := freeze_inv (m := off + n * 1) hI hb (by omega)
            have hbl : b < H.length := (List.getElem?_eq_some_iff.1 hb).1
            have hv := rep_view (bx := { bx with ro := max bx.ro (off + n * 1) }) i1 (List.getElem?_set_self hbl) hg (Nat.le_max_right _ _) (hx.stp i2)
            exact .same hI (run_conv_lst hv ho hs hd he h1) (.v _)
          · cases h
        · cases h
      · cases h
    · cases h
  · exact does_convert hI hA ho h
end ops

end Go.Proofs.YtnlmdeeadldgmaaGreatDoor.VL

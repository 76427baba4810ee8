/- The value logic, part 7: copy, make, closures. -/
import Derived.Test.YtkkhbmpcpilmfaaDoorVLOps5
import Derived.Laws.MakeOwn
set_option linter.unusedVariables false
set_option linter.unusedSimpArgs false
namespace Go.Proofs.YtkkhbmpcpilmfaaDoor.VL
open Go Go.RowKit Go.Lib

section ops
variable {P : Program} {ρ : Operand → Value} {A : Operand → AV} {o : Oper} {base : Nat} {w : World} {H : List Box} {β : Pl}

theorem fc_len (sz m n1 n2 c1 c2 : Nat) (a : Option Addr) : Builtin.firstCells sz m (.slice a n1 c1) = Builtin.firstCells sz m (.slice a n2 c2) := by cases a <;> rfl

/-- The first rows of what is read. -/
theorem src_take {x : AV} {v : Value} {sz m : Nat} {gs : List (List AV)} (hI : Inv base w H β) (hx : Rep w H β x v) (h : asrc sz H x = some gs) (hm : m ≤ gs.length) :
    ∃ vs, Rows' w H β sz (gs.take m) vs ∧ (Builtin.firstCells sz m v).run P w = .ok vs.toArray w := by
  unfold asrc at h
  split at h
  · rename_i s gs'
    split at h
    · rename_i hs
      subst hs
      injection h with h
      subst h
      obtain ⟨a, cap, rfl⟩ : ∃ a cap, v = .slice a gs'.length cap := by
        cases hx with
        | lst0 _ a cap => exact ⟨a, cap, by simp⟩
        | lst _ _ k s cap y hn hg hc hr => exact ⟨_, cap, rfl⟩
      have hp := rep_lst_part hx (Nat.zero_le m) hm cap (by omega)
      simp only [List.drop_zero, Nat.sub_zero, Nat.zero_mul] at hp
      obtain ⟨_, vs, h1, h2⟩ := src_run (P := P) (sz := s) (gs := gs'.take m) hI hp (by simp [asrc])
      refine ⟨vs, h1, ?_⟩
      have hl : (gs'.take m).length = m := by simp; omega
      rw [hl] at h2
      have := h2 w (fun _ _ _ => rfl)
      rw [fc_len s m gs'.length m cap cap a]
      cases a with
      | none => simpa using this
      | some a =>
        by_cases h0 : cap = 0
        · rw [if_pos h0] at this; exact this
        · rw [if_neg h0] at this
          simpa [Addr.add] using this
    · cases h
  · injection h with h
    subst h
    obtain rfl : m = 0 := by simpa using hm
    obtain ⟨_, vs, h1, h2⟩ := src_run (P := P) (sz := sz) hI hx rfl
    exact ⟨vs, by simpa using h1, h2 w (fun _ _ _ => rfl)⟩
  · rename_i b g off n s full
    split at h
    · rename_i bx hb
      split at h
      · rename_i hc
        obtain ⟨hg, rfl, hfit⟩ := hc
        injection h with h
        subst h
        rw [chunk_length] at hm
        obtain ⟨bx', e1, e2, a, cap, rfl, e4, e5, e6⟩ := live_sl (by simp [live, hb, hg]) hx
        rw [hb] at e1
        obtain rfl := Option.some.inj e1
        have hp : Rep w H β (.sl b g off m s false) (.slice a m cap) := rep_sl hb hg ⟨a, cap, rfl, by omega, by simp, e6⟩
        have hle : m * s ≤ n * s := Nat.mul_le_mul_right _ hm
        obtain ⟨_, vs, h1, h2⟩ := src_run (P := P) (sz := s) (gs := chunk s m (bx.cells.drop off)) hI hp (by simp only [asrc, hb]; rw [if_pos ⟨hg, by simp, by omega⟩])
        rw [chunk_length] at h2
        have htake : ∀ (n m : Nat) (cs : List AV), m ≤ n → (chunk s n cs).take m = chunk s m cs := by
          intro n
          induction n with
          | zero => intro m cs h; obtain rfl : m = 0 := by omega
                    rfl
          | succ n ih =>
            intro m cs h
            cases m with
            | zero => rfl
            | succ m => simp only [chunk, List.take_succ_cons, ih m _ (by omega)]
        refine ⟨vs, by rw [htake n m _ hm]; exact h1, ?_⟩
        have := h2 w (fun _ _ _ => rfl)
        cases a <;> exact this
      · cases h
    · cases h
  · rename_i s
    split at h
    · rename_i hsz
      subst hsz
      injection h with h
      subst h
      cases hx
      have hms : m ≤ s.size := by simpa [bytesG] using hm
      obtain ⟨_, vs, h1, h2⟩ := src_run (P := P) (sz := 1) (x := .v (.string (s.extract 0 m))) hI (.v _) rfl
      have hd : (s.extract 0 m).data.toList = s.data.toList.take m := by simp
      have hl : (bytesG (s.extract 0 m).data.toList).length = m := by simp [bytesG]; omega
      rw [hl] at h2
      refine ⟨vs, ?_, ?_⟩
      · rw [hd] at h1
        simpa [bytesG, List.map_take] using h1
      · have := h2 w (fun _ _ _ => rfl)
        have he : (s.extract 0 m).extract 0 m = s.extract 0 m := by
          apply ByteArray.ext
          simp [ByteArray.data_extract]
        simp only [Builtin.firstCells, he] at this ⊢
        exact this
    · cases h
  · cases h

def acopy (P : Program) (t : TypeId) (H : List Box) (d x : AV) : Option (AV × List Box) :=
  match elemTy P t, d with
  | some e, .sl b g off n sz _ => match H[b]?, asrc sz H x with
    | some bx, some gs =>
      if bx.gen = g ∧ sz = P.cellsOf e ∧ off + n * sz ≤ bx.cells.length ∧ bx.ro ≤ off then
        some (.v (.int .i64 ((min gs.length n : Nat) : Int)), H.set b { bx with cells := splice bx.cells off (flat (gs.take (min gs.length n))) }) else none
    | _, _ => none
  | _, _ => none

theorem does_copy (hI : Inv base w H β) (hA : ∀ x, Rep w H β (A x) (ρ x)) {t t2 : TypeId} {s x : Operand} (ho : o.op = .call { callee := .builtin .copy, args := #[s, x], argTypes := #[t, t2] })
    {r : AV} {H' : List Box} (h : acopy P t H (A s) (A x) = some (r, H')) : Does P ρ o base w H β r H' := by
  have hs := hA s
  have hx := hA x
  have key : ∀ v w', (Builtin.copy_ #[t, t2] o.type #[ρ s, ρ x]).run P w = .ok v w' → (execOp ρ o).run P w = .ok (.value v) w' := fun v w' hv => by
    simp [execOp, ho, resolve, invoke, builtin, hv]
  unfold acopy at h
  split at h
  · rename_i e b g off n sz full he hAs
    obtain ⟨hu, d, hd⟩ := elemTy_spec he
    rw [hAs] at hs
    split at h
    · rename_i bx gs hb hgs
      split at h
      · rename_i hc
        obtain ⟨hg, hsz, hfit, hro⟩ := hc
        injection h with h
        injection h with e1 e2
        subst e1; subst e2
        obtain ⟨bx', d1, d2, a, cap, hv, e4, e5, e6⟩ := live_sl (by simp [live, hb, hg]) hs
        rw [hb] at d1
        obtain rfl := Option.some.inj d1
        obtain ⟨hlen, _⟩ := src_run (P := P) hI hx hgs
        obtain ⟨vs, h1, h2⟩ := src_take (P := P) hI hx hgs (Nat.min_le_left gs.length n)
        obtain ⟨f1, f2⟩ := h1.flat
        have hvl := h1.1
        have hln : (gs.take (min gs.length n)).length = min gs.length n := by simp
        rw [hln] at hvl
        have hmn : min gs.length n ≤ n := Nat.min_le_right _ _
        have hmul : min gs.length n * sz ≤ n * sz := Nat.mul_le_mul_right _ hmn
        by_cases h0 : min gs.length n = 0
        · have hvs : vs = [] := List.eq_nil_of_length_eq_zero (by rw [hvl, h0]; simp)
          subst hvs
          have hfl : flat (gs.take (min gs.length n)) = [] := List.eq_nil_of_length_eq_zero (by rw [← f1]; rfl)
          rw [hfl]
          have hset : H.set b { bx with cells := splice bx.cells off [] } = H := by
            simp only [splice]
            apply List.ext_getElem?
            intro i
            by_cases hi : i = b
            · subst hi
              rw [List.getElem?_set_self (List.getElem?_eq_some_iff.1 hb).1, hb]
            · rw [List.getElem?_set_ne (Ne.symm hi)]
          rw [hset]
          refine .same hI (v := .int .i64 ((min gs.length n : Nat) : Int)) (key _ _ ?_) (.v _)
          rw [hv]
          rw [h0] at h2 ⊢
          have hs0 : P.cellsOf e = sz := hsz.symm
          cases a <;> simp [Builtin.copy_, run_underlying hu, hlen, run_sizeOf' hd, hs0, h0, h2, storeCells, goInt]
        · obtain ⟨k, st, c, et, fr, f3, f4, f5, f6⟩ := e6 (by omega)
          subst f4
          obtain ⟨r1, r2, r3⟩ := write_box (P := P) (o' := off) hI hb f3 (flat (gs.take (min gs.length n))) vs f1 (fun i d y hd hy => by
            obtain ⟨y', y1, y2, y3⟩ := f2 i d hd
            rw [hy] at y1
            obtain rfl := Option.some.inj y1
            exact y3) h1.2.1 hro (by omega)
          refine ⟨.int .i64 ((min gs.length n : Nat) : Int), _, β, .inl (key _ _ ?_), r2, r3, .v _⟩
          rw [hv]
          have hs0 : P.cellsOf e = sz := hsz.symm
          simp [Builtin.copy_, run_underlying hu, hlen, run_sizeOf' hd, hs0, h2, r1, goInt]
      · cases h
    · cases h
  · cases h

def amake (P : Program) (t : TypeId) (H : List Box) (l c : AV) : Option (AV × List Box) :=
  match elemTy P t, l, c with
  | some e, .v (.int _ l), .v (.int _ c) => match zeroCs P e with
    | some z => if 0 ≤ l ∧ l ≤ c ∧ c * P.bytesOf e ≤ 140737488355328 ∧ c ≤ 140737488355328 ∧ z.length = P.cellsOf e then
        some (.sl H.length 0 0 l.toNat (P.cellsOf e) (decide (l = c)), H ++ [⟨flat (List.replicate l.toNat z), 0, 0, true⟩]) else none
    | none => none
  | _, _, _ => none

theorem zero_full {e : TypeId} {z : List AV} (h : zeroCs P e = some z) : ∃ i z', P.info? e = some i ∧ i.zero = some z' ∧ i.size = P.cellsOf e ∧ i.bytes = P.bytesOf e ∧ z = z'.cells.toList.map zcell ∧ ∀ (i : Nat) (y : Value), z'.cells[i]? = some y → y.oneCell' = true := by
  unfold zeroCs at h
  obtain ⟨z', h1, h2⟩ := Option.bind_eq_some_iff.1 h
  obtain ⟨i, h3, h4⟩ := Option.bind_eq_some_iff.1 h1
  split at h2
  · rename_i hall
    injection h2 with h2
    exact ⟨i, z', h3, h4, by simp [Program.cellsOf, h3], by simp [Program.bytesOf, h3], h2.symm, fun i y hy => List.all_eq_true.1 hall y (by
      rw [← Array.getElem?_toList] at hy
      exact List.mem_of_getElem? hy)⟩
  · cases h2
theorem does_make (hI : Inv base w H β) (hA : ∀ x, Rep w H β (A x) (ρ x)) {t : TypeId} {l c : Operand} (ho : o.op = .makeSlice t l c) {r : AV} {H' : List Box} (h : amake P t H (A l) (A c) = some (r, H')) : Does P ρ o base w H β r H' := by
  have hl := hA l
  have hc := hA c
  unfold amake at h
  split at h
  · rename_i e lk li ck ci he hAl hAc
    obtain ⟨hu, d, hd⟩ := elemTy_spec he
    rw [hAl] at hl
    rw [hAc] at hc
    split at h
    · rename_i z hz
      split at h
      · rename_i hcond
        obtain ⟨h0, hlc, hbd, hc47, hzl⟩ := hcond
        injection h with h
        injection h with e1 e2
        subst e1; subst e2
        generalize hvl : ρ l = vl at hl
        generalize hvc : ρ c = vc at hc
        cases hl
        cases hc
        obtain ⟨i0, zv, hi, hiz, hsz, hby, z2, z3⟩ := zero_full hz
        obtain ⟨ln, rfl⟩ := Int.eq_ofNat_of_zero_le h0
        obtain ⟨cn, rfl⟩ := Int.eq_ofNat_of_zero_le (Int.le_trans h0 hlc)
        have hzsz : zv.cells.size = P.cellsOf e := by
          have := congrArg List.length z2
          simp at this
          omega
        have hrun := run_make (P := P) w t e i0 zv hu hi hiz lk ck ln cn (by omega) hlc (by rw [hby, Int.mul_comm]; omega) (by omega)
        rw [Int.toNat_natCast, Int.toNat_natCast, hsz] at hrun
        obtain ⟨C, hC⟩ : ∃ C, C = madeCells zv.cells (cn * P.cellsOf e) := ⟨_, rfl⟩
        rw [← hC] at hrun
        have hCsz : C.size = cn * P.cellsOf e := by rw [hC, size_madeCells]
        have hln : ln ≤ cn := by omega
        have hmul : ln * P.cellsOf e ≤ cn * P.cellsOf e := Nat.mul_le_mul_right _ hln
        have hrep : ∀ (i : Nat) (g : List AV), (List.replicate ln z)[i]? = some g → g.length = P.cellsOf e := fun i g hg => by
          rw [List.getElem?_replicate] at hg
          split at hg
          · injection hg with hg; rw [← hg]; exact hzl
          · cases hg
        have hfl := flat_length hrep
        simp only [List.length_replicate] at hfl
        obtain ⟨g1, g2⟩ := newb hI C e ⟨flat (List.replicate ln z), 0, 0, true⟩ (Nat.zero_le _) (fun j c hj => by
          obtain ⟨i, k, g, q1, q2, rfl⟩ := flat_get hrep j c hj
          rw [List.getElem?_replicate] at q1
          split at q1
          · rename_i hil
            injection q1 with q1
            subst q1
            have hkl := (List.getElem?_eq_some_iff.1 q2).1
            have hlt : i * P.cellsOf e + k < cn * P.cellsOf e := by
              have : (i + 1) * P.cellsOf e ≤ cn * P.cellsOf e := Nat.mul_le_mul_right _ (by omega)
              rw [Nat.add_mul] at this
              omega
            have hmod : (i * P.cellsOf e + k) % zv.cells.size = k := by rw [hzsz, Nat.mul_comm, Nat.mul_add_mod]; exact Nat.mod_eq_of_lt (by omega)
            have hk : k < zv.cells.size := by omega
            have hCk : C[i * P.cellsOf e + k]? = some zv.cells[k] := by
              rw [hC, madeCells, Array.getElem?_map, Array.getElem?_range, if_pos hlt, Option.map_some, hmod, getElem!_pos zv.cells k hk]
            refine ⟨zv.cells[k], hCk, z3 k _ (Array.getElem?_eq_getElem hk), ?_⟩
            rw [z2] at q2
            simp only [List.getElem?_map, Array.getElem?_toList, Array.getElem?_eq_getElem hk, Option.map_some, Option.some.injEq] at q2
            rw [← q2]
            exact rep_zcell _
          · cases q1)
        refine ⟨.slice (some ⟨w.heap.size, 0, none⟩) ln cn, _, _, .inl ?_, g1, g2, rep_sl (bx := ⟨flat (List.replicate ln z), 0, 0, true⟩) (by simp) rfl ⟨_, cn, rfl, hln, fun hf => by simp at hf; omega, fun hh => ⟨w.heap.size, 0, C, e, (0, 0), upd_same _ _ _, rfl, ?_, ?_⟩⟩⟩
        · simp only [execOp, ho, hvl, hvc, Sem.run_bind, hrun, Result.andThen_ok, Sem.run_pure]
        · show (w.heap.push (Obj.cells C e))[w.heap.size]? = _
          rw [Array.getElem?_push_size]
        · rw [hCsz]; omega
      · cases h
    · cases h
  · cases h

def acaps (A : Operand → AV) (cs : Array Operand) : List AV := cs.toList.map A
theorem does_makeFunc (hI : Inv base w H β) (hA : ∀ x, Rep w H β (A x) (ρ x)) {f : FuncId} {cs : Array Operand} (ho : o.op = .makeFunc (.func f) #[] cs) : Does P ρ o base w H β (.fn f (acaps A cs)) H := by
  refine .same hI (v := .func (.func f) #[] (cs.map ρ)) (by simp [execOp, ho, Instr.makeFunc]) (.fn f _ _ (by simp [acaps]) fun i c x h1 h2 => ?_)
  simp only [acaps, List.getElem?_map] at h1
  rw [Array.getElem?_map] at h2
  cases hq : cs[i]? with
  | none => rw [hq] at h2; cases h2
  | some y =>
    rw [hq] at h2
    rw [Array.getElem?_toList, hq] at h1
    simp only [Option.map_some, Option.some.injEq] at h1 h2
    subst h1; subst h2
    exact hA y

end ops
end Go.Proofs.YtkkhbmpcpilmfaaDoor.VL

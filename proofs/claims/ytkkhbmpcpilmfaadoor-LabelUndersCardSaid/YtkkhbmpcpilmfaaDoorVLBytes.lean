/- The value logic, part 15: arrays of bytes, rows of them. -/
import Derived.Test.YtkkhbmpcpilmfaaDoorVLFroz
set_option linter.unusedVariables false
set_option linter.unusedSimpArgs false
namespace Go.Proofs.YtkkhbmpcpilmfaaDoor.VL
open Go Go.RowKit Go.Lib

@[go_sem] theorem bytesC_take (a : List UInt8) (n : Nat) : (bytesC a).take n = bytesC (a.take n) := by simp [bytesC, List.map_take]
@[go_sem] theorem bytesOfC_C (bs : List UInt8) : bytesOfC (bytesC bs) = some bs := by
  unfold bytesC
  induction bs with
  | nil => rfl
  | cons b r ih =>
    have := b.toNat_lt
    rw [List.map_cons, bytesOfC, if_pos (by omega), ih]
    simp
@[go_sem] theorem bytesC_all (bs : List UInt8) : (bytesC bs).all AV.one = true := by
  unfold bytesC
  induction bs with
  | nil => rfl
  | cons b r ih => rw [List.map_cons, List.all_cons, ih]; rfl
/-- Bytes put in others' place. -/
def spl (t : List UInt8) (o : Nat) (x : List UInt8) : List UInt8 := t.take o ++ (x ++ t.drop (o + x.length))
theorem spl_length (t x : List UInt8) (o : Nat) (h : o + x.length ≤ t.length) : (spl t o x).length = t.length := by
  simp [spl]; omega
@[go_sem] theorem splice_bytes (t x : List UInt8) (o : Nat) (h : o + x.length ≤ t.length) : splice (bytesC t) o (bytesC x) = bytesC (spl t o x) := by
  apply List.ext_getElem?
  intro j
  rw [splice_get _ _ _ _ (by simpa [bytesC] using h)]
  simp only [bytesC, List.length_map, List.getElem?_map, spl]
  by_cases h1 : j < o
  · rw [if_neg (by omega), List.getElem?_append_left (by simp; omega), List.getElem?_take_of_lt h1]
  · by_cases h2 : j < o + x.length
    · rw [if_pos (by omega), List.getElem?_append_right (by simp; omega), List.getElem?_append_left (by simp; omega)]
      congr 2
      simp; omega
    · rw [if_neg (by omega), List.getElem?_append_right (by simp; omega), List.getElem?_append_right (by simp; omega), List.getElem?_drop]
      congr 2
      simp; omega
@[go_sem] theorem spl_all (t x : List UInt8) (h : x.length = t.length) : spl t 0 x = x := by
  rw [spl, List.take_zero, List.nil_append, Nat.zero_add, h, List.drop_length, List.append_nil]
theorem bytesC_getv (t : List UInt8) (i : Nat) : (bytesC t)[i]? = (t[i]?).map fun b => AV.v (.int .u8 b.toNat) := by simp [bytesC]

/-- Rows of byte arrays. -/
abbrev secG (l : List (List UInt8)) : List (List AV) := l.map bytesC
@[go_sem] theorem secG_length (l : List (List UInt8)) : (secG l).length = l.length := by simp [secG]
@[go_sem] theorem secG_get (l : List (List UInt8)) (i : Nat) : (secG l)[i]? = (l[i]?).map bytesC := by simp [secG]
@[go_sem] theorem flat_secG (l : List (List UInt8)) : flat (secG l) = bytesC l.flatten := by
  unfold flat bytesC secG
  induction l with
  | nil => rfl
  | cons a r ih => simp only [List.map_cons, List.flatten_cons, List.map_append]; rw [ih]; rfl
@[go_sem] theorem flat_zeros (n : Nat) (z : List UInt8) : flat (List.replicate n (bytesC z)) = bytesC (List.replicate n z).flatten := by
  have := flat_secG (List.replicate n z)
  rwa [secG, List.map_replicate] at this
@[go_sem] theorem bytesC_set (t : List UInt8) (i : Nat) (x : Int) (h0 : 0 ≤ x) (h1 : x ≤ 255) : (bytesC t).set i (AV.v (.int .u8 x)) = bytesC (t.set i (UInt8.ofNat x.toNat)) := by
  have e : ((UInt8.ofNat x.toNat).toNat : Int) = x := by
    rw [UInt8.toNat_ofNat']
    omega
  simp only [bytesC, List.map_set, e]
@[go_sem] theorem ofNat_self (c : UInt8) : UInt8.ofNat c.toNat = c := by simp
@[go_sem] theorem flat_zero1 (n : Nat) : flat (List.replicate n [AV.v (.int .u8 0)]) = bytesC (zerosB n) := by
  unfold zerosB
  induction n with
  | zero => rfl
  | succ n ih => rw [List.replicate_succ, flat_cons, ih]; rfl

def all64 (l : List (List UInt8)) : Prop := ∀ x ∈ l, x.length = 64
theorem all64_cons {a : List UInt8} {l : List (List UInt8)} (h : all64 (a :: l)) : a.length = 64 ∧ all64 l := ⟨h a (by simp), fun x hx => h x (by simp [hx])⟩
theorem flat64_length : ∀ (l : List (List UInt8)), all64 l → l.flatten.length = l.length * 64 := by
  intro l
  induction l with
  | nil => intro _; rfl
  | cons a r ih =>
    intro h
    obtain ⟨h1, h2⟩ := all64_cons h
    rw [List.flatten_cons, List.length_append, h1, ih h2, List.length_cons, Nat.add_mul]
    omega
theorem flat64_get : ∀ (l : List (List UInt8)) (i : Nat) (x : List UInt8), all64 l → l[i]? = some x → (l.flatten.drop (i * 64)).take 64 = x := by
  intro l
  induction l with
  | nil => intro i x _ h; simp at h
  | cons a r ih =>
    intro i x h hx
    obtain ⟨h1, h2⟩ := all64_cons h
    cases i with
    | zero =>
      simp at hx
      subst hx
      rw [Nat.zero_mul, List.drop_zero, List.flatten_cons, List.take_append_of_le_length (by omega), List.take_of_length_le (by omega)]
    | succ i =>
      rw [List.flatten_cons, show (i + 1) * 64 = a.length + i * 64 by omega, List.drop_append]
      rw [show a.drop (a.length + i * 64) = [] from List.drop_eq_nil_of_le (by omega), List.nil_append, Nat.add_sub_cancel_left]
      exact ih i x h2 (by simpa using hx)
theorem flat64_set : ∀ (l : List (List UInt8)) (i : Nat) (x : List UInt8), all64 l → i < l.length → x.length = 64 → spl l.flatten (i * 64) x = (l.set i x).flatten := by
  intro l
  induction l with
  | nil => intro i x _ h; simp at h
  | cons a r ih =>
    intro i x h hi hx
    obtain ⟨h1, h2⟩ := all64_cons h
    cases i with
    | zero =>
      rw [Nat.zero_mul, List.set_cons_zero, List.flatten_cons, List.flatten_cons, spl, List.take_zero, List.nil_append, Nat.zero_add, hx, ← h1, List.drop_left]
    | succ i =>
      have := ih i x h2 (by simpa using hi) hx
      rw [List.set_cons_succ, List.flatten_cons, List.flatten_cons, ← this, spl, spl, show (i + 1) * 64 = a.length + i * 64 by omega]
      rw [List.take_append, List.take_of_length_le (by omega), Nat.add_sub_cancel_left, List.append_assoc, List.drop_append, show a.length + i * 64 + x.length - a.length = i * 64 + x.length by omega,
        show a.drop (a.length + i * 64 + x.length) = [] from List.drop_eq_nil_of_le (by omega), List.nil_append]
theorem all64_set {l : List (List UInt8)} (h : all64 l) (i : Nat) {x : List UInt8} (hx : x.length = 64) : all64 (l.set i x) := fun y hy => by
  rcases List.mem_or_eq_of_mem_set hy with h1 | h1
  · exact h y h1
  · rw [h1]; exact hx
theorem chunk64 : ∀ (l : List (List UInt8)), all64 l → chunk 64 l.length (bytesC l.flatten) = secG l := by
  intro l
  induction l with
  | nil => intro _; rfl
  | cons a r ih =>
    intro h
    obtain ⟨h1, h2⟩ := all64_cons h
    rw [List.length_cons, chunk, bytesC_take, bytesC_drop, List.flatten_cons, List.take_append_of_le_length (by omega), List.take_of_length_le (by omega), ← h1, List.drop_left, h1, ih h2]
    rfl
theorem lt_sec {n : Nat} (l : List (List UInt8)) : Lt n (.lst 64 (secG l)) := .lst _ _ fun i j g c hi hj => by
  simp only [secG, List.getElem?_map] at hi
  obtain ⟨x, _, rfl⟩ := Option.map_eq_some_iff.1 hi
  exact (bytesC_lt x j c hj).mono (Nat.zero_le _)

/-- Values with a row of one's own among them, that is only read from now on. -/
theorem Fin.froz {E : Ent} {N : List Box} {r r' : AV} {b g n : Nat} {full : Bool} {bx : Box} {L : List (List UInt8)} {K : AV → List Box → Prop} (hb : (E.H ++ N)[b]? = some bx) (hge : E.H.length ≤ b) (hg : bx.gen = g) (hc : bx.cells = bytesC L.flatten) (hn : n = L.length) (h64 : all64 L)
    (hsw : ∀ (w : World) (H : List Box) (β : Pl) (v : Value), (∀ x, Rep w H β (.sl b g 0 n 64 full) x → Rep w H β (.lst 64 (secG L)) x) → Rep w H β r v → Rep w H β r' v) (hlt : Lt 0 r') (h : K r' E.H) : Fin E r (E.H ++ N) K :=
  ⟨r', E.H, fun w β v hI hs hr => by
    have hfl := flat64_length L h64
    have hfit : 0 + n * 64 ≤ bx.cells.length := by rw [hc, bytesC_length, hfl, hn]; omega
    obtain ⟨h1, h2⟩ := freeze_inv hI hb hfit
    have hbl : b < (E.H ++ N).length := (List.getElem?_eq_some_iff.1 hb).1
    have hr' := hsw w _ β v (fun x hx => by
      have hv : Rep w _ β (.lst 64 (chunk 64 n (bx.cells.drop 0))) x := rep_view (bx := { bx with ro := max bx.ro (0 + n * 64) }) h1 (List.getElem?_set_self hbl) hg (Nat.le_max_right _ _) hx
      have hcell : chunk 64 n (bx.cells.drop 0) = secG L := by rw [List.drop_zero, hc, hn, chunk64 L h64]
      rwa [hcell] at hv) (hr.stp h2)
    have hs' := hs.trans h2
    rw [List.set_append_right _ _ hge] at h1 hs' hr'
    obtain ⟨g1, g2, g3⟩ := cut_inv h1 hs' (fun i bx hi j c hj => E.inv.ltCells hi hj) (Nat.le_refl _)
    exact ⟨β, g1, g2, g3 _ _ (hlt.mono (Nat.zero_le _)) hr'⟩, h⟩
theorem rep_agg_sw {w : World} {H : List Box} {β : Pl} {a a' : AV} {r : List AV} {v : Value} (h : ∀ x, Rep w H β a x → Rep w H β a' x) (hr : Rep w H β (.agg (a :: r)) v) : Rep w H β (.agg (a' :: r)) v := by
  cases hr with
  | agg cs vs hl hh =>
    refine .agg _ vs (by simpa using hl) fun i c x hc hx => ?_
    cases i with
    | zero => simp at hc; subst hc; exact h _ (hh 0 _ x rfl hx)
    | succ i => exact hh (i + 1) c x (by simpa using hc) hx
theorem rep_tup_sw {w : World} {H : List Box} {β : Pl} {a a' : AV} {r : List AV} {v : Value} (h : ∀ x, Rep w H β a x → Rep w H β a' x) (hr : Rep w H β (.tup (a :: r)) v) : Rep w H β (.tup (a' :: r)) v := by
  cases hr with
  | tup cs vs hl hh =>
    refine .tup _ vs (by simpa using hl) fun i c x hc hx => ?_
    cases i with
    | zero => simp at hc; subst hc; exact h _ (hh 0 _ x rfl hx)
    | succ i => exact hh (i + 1) c x (by simpa using hc) hx
theorem Lt.cons_agg {n : Nat} {a : AV} {r : List AV} (h : Lt n a) (hr : Lt n (.agg r)) : Lt n (.agg (a :: r)) := .agg _ fun i c hc => by
  cases i with
  | zero => simp at hc; subst hc; exact h
  | succ i => cases hr with | agg _ hh => exact hh i c (by simpa using hc)
theorem Lt.cons_tup {n : Nat} {a : AV} {r : List AV} (h : Lt n a) (hr : Lt n (.tup r)) : Lt n (.tup (a :: r)) := .tup _ fun i c hc => by
  cases i with
  | zero => simp at hc; subst hc; exact h
  | succ i => cases hr with | tup _ hh => exact hh i c (by simpa using hc)
theorem Lt.nil_agg {n : Nat} : Lt n (.agg []) := .agg _ fun i c hc => by simp at hc
theorem Lt.nil_tup {n : Nat} : Lt n (.tup []) := .tup _ fun i c hc => by simp at hc
theorem lt_bytesC {n : Nat} (bs : List UInt8) : Lt n (.agg (bytesC bs)) := .agg _ fun i c hc => (bytesC_lt bs i c hc).mono (Nat.zero_le _)

end Go.Proofs.YtkkhbmpcpilmfaaDoor.VL

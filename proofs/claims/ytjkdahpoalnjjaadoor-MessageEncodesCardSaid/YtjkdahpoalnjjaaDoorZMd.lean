/- Layer 20: a talk's bytes, and how many they are. -/
import Derived.Test.YtjkdahpoalnjjaaDoorZMc
import Derived.Test.YtjkdahpoalnjjaaDoorZQuillD
import Derived.Test.YtjkdahpoalnjjaaDoorZFrameA
set_option linter.unusedVariables false
set_option linter.unusedSimpArgs false
namespace Go.Proofs.YtjkdahpoalnjjaaDoor.VL
open Go Go.RowKit Go.Lib

def dgB (x : Dg) : List UInt8 := numsB [x.n, x.g, x.v]
def enB (x : En) : List UInt8 := numsB [x.k, x.v] ++ (numB x.s.length ++ x.s)
def dlB (d : Dl) : List UInt8 := numsB [d.n, d.f, d.s.g, d.s.b, d.s.a.length] ++ d.s.a.flatMap enB
def tB (t : Tk) : List UInt8 := (if knows t.k then numB t.d.length ++ t.d.flatMap dgB else []) ++ (if tells t.k then numB t.l.length ++ t.l.flatMap dlB else [])
/-- What Encode answers. -/
def encT (t : Tk) : List UInt8 × Int := if tkOk t then (tB t, 0) else ([], 1)

theorem fm_le {α : Type} (f : α → List UInt8) (c : Nat) : ∀ (l : List α), (∀ x ∈ l, (f x).length ≤ c) → (l.flatMap f).length ≤ l.length * c
  | [], _ => by simp
  | x :: l, h => by
    have h1 := h x (by simp)
    have h2 := fm_le f c l fun y hy => h y (by simp [hy])
    rw [List.flatMap_cons, List.length_append, List.length_cons, Nat.succ_mul]
    omega
theorem fm_take {α : Type} (f : α → List UInt8) {l : List α} {i : Nat} {x : α} (h : l[i]? = some x) : (l.take (i + 1)).flatMap f = (l.take i).flatMap f ++ f x := by
  rw [take_snoc h, List.flatMap_append, List.flatMap_cons, List.flatMap_nil, List.append_nil]
theorem fm_pre {α : Type} (f : α → List UInt8) (l : List α) (i : Nat) : ((l.take i).flatMap f).length ≤ (l.flatMap f).length := by
  have := congrArg List.length (show (l.take i).flatMap f ++ (l.drop i).flatMap f = l.flatMap f by rw [← List.flatMap_append, List.take_append_drop])
  rw [List.length_append] at this
  omega
theorem dgB_le (x : Dg) : (dgB x).length ≤ 27 := by
  have a1 := numB_length_le x.n
  have a2 := numB_length_le x.g
  have a3 := numB_length_le x.v
  simp only [dgB, numsB, List.flatMap_cons, List.flatMap_nil, List.length_append, List.length_nil]
  omega
theorem enB_le {x : En} (h : mayE x = true) : (enB x).length ≤ 227 := by
  have a1 := numB_length_le x.k
  have a2 := numB_length_le x.v
  have a3 := numB_length_le x.s.length
  have a4 := (mayE_iff.1 h).2.2.2.2
  simp only [enB, numsB, List.flatMap_cons, List.flatMap_nil, List.length_append, List.length_nil]
  omega
theorem mayD_iff {d : Dl} : mayD d = true ↔ 0 ≤ d.n ∧ d.n < 8 ∧ 0 ≤ d.f ∧ d.f ≤ 1099511627776 ∧ stOk d.s = true ∧ aboveAll d.f d.s.a = true := by simp [mayD]
theorem stOk_iff {s : St} : stOk s = true ↔ 1 ≤ s.g ∧ s.g ≤ 1099511627776 ∧ 0 ≤ s.b ∧ s.b ≤ 1099511627776 ∧ tabOk s.a = true := by simp [stOk]
theorem mayD_tab {d : Dl} (h : mayD d = true) : tabOk d.s.a = true := (stOk_iff.1 (mayD_iff.1 h).2.2.2.2.1).2.2.2.2
theorem num5_le (a b c d e : Int) : (numsB [a, b, c, d, e]).length ≤ 45 := numsB_length [a, b, c, d, e]
theorem dlA_le {d : Dl} (h : mayD d = true) : (d.s.a.flatMap enB).length ≤ 2724 := by
  have h1 := fm_le enB 227 d.s.a fun x hx => enB_le (tabOk_may (mayD_tab h) x hx)
  have h2 := tabOk_len (mayD_tab h)
  have h3 := Nat.mul_le_mul_right 227 h2
  omega
theorem dlB_le {d : Dl} (h : mayD d = true) : (dlB d).length ≤ 2769 := by
  have h1 := dlA_le h
  have h2 := num5_le d.n d.f d.s.g d.s.b d.s.a.length
  rw [dlB, List.length_append]
  omega
theorem dgGo_len {last : Int} : ∀ {l : List Dg}, dgGo last l = true → -1 ≤ last → (l = [] ∨ (l.length : Int) + last ≤ 7)
  | [], _, _ => .inl rfl
  | y :: l, h, h0 => by
    simp only [dgGo, Bool.and_eq_true, decide_eq_true_eq] at h
    right
    rw [List.length_cons]
    rcases dgGo_len h.2.2.2.2.2.2 (by omega) with rfl | h3
    · simp; omega
    · omega
theorem dgOk_len {l : List Dg} (h : dgOk l = true) : l.length ≤ 8 := by
  rcases dgGo_len h (by omega) with rfl | h
  · simp
  · omega
theorem dlGo_len {last : Int} : ∀ {l : List Dl}, dlGo last l = true → -1 ≤ last → (l = [] ∨ (l.length : Int) + last ≤ 7)
  | [], _, _ => .inl rfl
  | y :: l, h, h0 => by
    simp only [dlGo, Bool.and_eq_true, decide_eq_true_eq] at h
    have hm := mayD_iff.1 h.1
    right
    rw [List.length_cons]
    rcases dlGo_len h.2.2 (by omega) with rfl | h3
    · simp; omega
    · omega
theorem dlOk_len {l : List Dl} (h : dlOk l = true) : l.length ≤ 8 := by
  rcases dlGo_len h (by omega) with rfl | h
  · simp
  · omega
theorem dlGo_may {last : Int} : ∀ {l : List Dl}, dlGo last l = true → ∀ x ∈ l, mayD x = true
  | y :: l, h, x, hx => by
    simp only [dlGo, Bool.and_eq_true, decide_eq_true_eq] at h
    rcases List.mem_cons.1 hx with rfl | hx
    · exact h.1
    · exact dlGo_may h.2.2 x hx
theorem dgs_le {l : List Dg} (h : dgOk l = true) : (l.flatMap dgB).length ≤ 216 := by
  have h1 := fm_le dgB 27 l fun x hx => dgB_le x
  have h3 := Nat.mul_le_mul_right 27 (dgOk_len h)
  omega
theorem dls_le {l : List Dl} (h : dlOk l = true) : (l.flatMap dlB).length ≤ 22152 := by
  have h1 := fm_le dlB 2769 l fun x hx => dlB_le (dlGo_may h x hx)
  have h3 := Nat.mul_le_mul_right 2769 (dlOk_len h)
  omega
theorem tkOk_parts {t : Tk} (h : tkOk t = true) : (1 ≤ t.k ∧ t.k < 8) ∧ (knows t.k = false → t.d = []) ∧ (tells t.k = false → t.l = []) ∧ dgOk t.d = true ∧ dlOk t.l = true := by
  simp only [tkOk, Bool.and_eq_true, Bool.or_eq_true, decide_eq_true_eq, List.isEmpty_iff] at h
  refine ⟨⟨h.1, h.2.1⟩, fun hk => ?_, fun hk => ?_, h.2.2.2.2.1, h.2.2.2.2.2⟩
  · rcases h.2.2.1 with h1 | h1
    · rw [h1] at hk; cases hk
    · exact h1
  · rcases h.2.2.2.1 with h1 | h1
    · rw [h1] at hk; cases hk
    · exact h1
theorem tB_le {t : Tk} (h : tkOk t = true) : (tB t).length ≤ 22386 := by
  obtain ⟨_, _, _, h1, h2⟩ := tkOk_parts h
  have a1 := dgs_le h1
  have a2 := dls_le h2
  have a3 := numB_length_le t.d.length
  have a4 := numB_length_le t.l.length
  unfold tB
  cases knows t.k <;> cases tells t.k <;> simp only [Bool.false_eq_true, if_true, if_false, List.length_append, List.length_nil] <;> omega
theorem tkOk_in {t : Tk} (h : tkOk t = true) : TkIn t := by
  obtain ⟨_, _, _, h1, h2⟩ := tkOk_parts h
  refine ⟨Nat.le_trans (dgOk_len h1) (by omega), Nat.le_trans (dlOk_len h2) (by omega), fun d hd => ⟨?_, fun y hy => ?_⟩⟩
  · exact Nat.le_trans (tabOk_len (mayD_tab (dlGo_may h2 d hd))) (by omega)
  · exact Nat.le_trans (mayE_iff.1 (tabOk_may (mayD_tab (dlGo_may h2 d hd)) y hy)).2.2.2.2 (by omega)

end Go.Proofs.YtjkdahpoalnjjaaDoor.VL

/- Layer 20: a talk's payload, as the program lays it. -/
-- STEPWISE
-- WK
set_option linter.unusedVariables false
set_option linter.unusedSimpArgs false
set_option maxRecDepth 10000
namespace Go.Proofs.YtjkdahpoalnjjaaDoor.VL
open Go Go.RowKit Go.Lib

theorem nums3_spec (bs : List UInt8) (hl : bs.length ≤ 1099511627776) (a b c : Int) (H : List Box) : ASpec Tryd.prog 42 [vB bs, .lst 1 [[vi a], [vi b], [vi c]]] H (Gives (vB (bs ++ numsB [a, b, c])) H) := (num_spec bs hl [a, b, c] (by simp) H).froz
theorem nums5_spec (bs : List UInt8) (hl : bs.length ≤ 1099511627776) (a b c d e : Int) (H : List Box) : ASpec Tryd.prog 42 [vB bs, .lst 1 [[vi a], [vi b], [vi c], [vi d], [vi e]]] H (Gives (vB (bs ++ numsB [a, b, c, d, e])) H) := (num_spec bs hl [a, b, c, d, e] (by simp) H).froz
theorem nums2_spec (bs : List UInt8) (hl : bs.length ≤ 1099511627776) (a b : Int) (H : List Box) : ASpec Tryd.prog 42 [vB bs, .lst 1 [[vi a], [vi b]]] H (Gives (vB (bs ++ numsB [a, b])) H) := (num_spec bs hl [a, b] (by simp) H).froz
theorem lt_tk {n : Nat} (t : Tk) : ∀ bx ∈ [(⟨tkC t, 0, 0, false⟩ : Box)], ∀ c ∈ bx.cells, Lt n c := by
  intro bx hb c hc
  simp only [List.mem_cons, List.not_mem_nil, or_false] at hb
  subst hb
  simp only [List.mem_cons, List.not_mem_nil, or_false] at hc
  rcases hc with rfl | rfl | rfl
  · exact .v _
  · exact lt_dg _
  · exact lt_dl _

set_option maxHeartbeats 8000000 in
theorem tkEncode1_spec (d : List Dg) (l : List Dl) (hok : tkOk ⟨1, d, l⟩ = true) (H : List Box) : ASpec Tryd.prog 18 [.agg (tkC ⟨1, d, l⟩)] H (Gives (.tup [vB (tB ⟨1, d, l⟩), vi 0]) H) := by
  have h0 := fun H => tkRight_spec ⟨1, d, l⟩ (tkOk_in hok) H
  rw [hok] at h0
  obtain ⟨_, _, _, hdo, hlo⟩ := tkOk_parts hok
  dsimp only at hdo hlo h0
  have hds := dgs_le hdo
  have hls := dls_le hlo
  have hmay := dlGo_may hlo
  have hd8 := dgOk_len hdo
  have hl8 := dlOk_len hlo
  have hn1 := numB_length_le d.length
  have hn2 := numB_length_le l.length
  have hT : tB ⟨1, d, l⟩ = (numB d.length ++ d.flatMap dgB) ++ ([]) := rfl
  rw [List.append_nil] at hT
  rw [hT]
  clear hT hok hdo hlo
  refine ASpec.enter Tryd.func18 rfl (fun a w => Tryd.call18 a w) Tryd.ntmps18 Tryd.results18 fun base w β hI => ?_
  have hf := fun H => (num1_spec [] (by simp) d.length H).froz
  rw [List.nil_append] at hf
  refine wkE wT (wA h0 (wA hf (wA DrM.mk wT))) ?_
  refine AWP.loop (ι := {i : Nat // i ≤ d.length}) (fun p => ⟨[(1, .ptr H.length 0 0), (4, vB (numB d.length ++ (d.take p.1).flatMap dgB)), (26, .lst 3 (dgG d)), (27, vi d.length), (28, vi p.1)], H ++ [⟨tkC ⟨1, d, l⟩, 0, 0, false⟩]⟩) (fun p => d.length - p.1) ⟨0, Nat.zero_le _⟩ ?_ ?_
  · dsimp only
    rw [List.take_zero, List.flatMap_nil, List.append_nil]
    exact Coe.kp
  · rintro ⟨i, hi⟩
    dsimp only
    by_cases hc : (i : Int) < (d.length : Int)
    · have hg : d[i]? = some d[i] := List.getElem?_eq_getElem (by omega)
      have hC := fm_take dgB hg
      have hle := Nat.le_trans (fm_pre dgB d i) hds
      generalize d[i] = x at *
      obtain ⟨n, g, v⟩ := x
      have hC' : numB d.length ++ (d.take (i + 1)).flatMap dgB = (numB d.length ++ (d.take i).flatMap dgB) ++ numsB [n, g, v] := by rw [hC, List.append_assoc]; rfl
      have hle' : (numB d.length ++ (d.take i).flatMap dgB).length ≤ 1000 := by rw [List.length_append]; omega
      generalize numB d.length ++ (d.take i).flatMap dgB = C at *
      have h3 := fun H => nums3_spec C (by omega) n g v H
      rw [← hC'] at h3
      generalize hG : numB d.length ++ (d.take (i + 1)).flatMap dgB = C' at *
      refine wk (wA hc (wA hg wT)) (wA h3 (wA DrM.mk wT)) ?_
      refine ⟨⟨i + 1, by omega⟩, ?_, by dsimp only; omega⟩
      dsimp only
      rw [hG]
      exact Coe.cutN (M := [_]) (Keeps.kp wT) (fun p hp => by simp only [List.mem_cons, List.not_mem_nil, or_false] at hp; rcases hp with rfl | rfl | rfl | rfl | rfl <;> first | exact .v _ | exact lt_bytes _ | exact lt_dg _ | exact lt_dl _ | exact lt_en _ | exact .ptr _ _ _ (by simp)) (lt_tk ⟨_, d, l⟩)
    · obtain rfl : i = d.length := by omega
      rw [List.take_length]
      refine wk (wA hc wT) (wA DrM.mk wT) ?_
      refine wkEnd wT ?_
      exact Fin.cut (.cons_tup (lt_bytes _) (.cons_tup (.v _) .nil_tup)) ⟨rfl, rfl⟩
set_option maxHeartbeats 8000000 in
theorem tkEncode2_spec (d : List Dg) (l : List Dl) (hok : tkOk ⟨2, d, l⟩ = true) (H : List Box) : ASpec Tryd.prog 18 [.agg (tkC ⟨2, d, l⟩)] H (Gives (.tup [vB (tB ⟨2, d, l⟩), vi 0]) H) := by
  have h0 := fun H => tkRight_spec ⟨2, d, l⟩ (tkOk_in hok) H
  rw [hok] at h0
  obtain ⟨_, _, _, hdo, hlo⟩ := tkOk_parts hok
  dsimp only at hdo hlo h0
  have hds := dgs_le hdo
  have hls := dls_le hlo
  have hmay := dlGo_may hlo
  have hd8 := dgOk_len hdo
  have hl8 := dlOk_len hlo
  have hn1 := numB_length_le d.length
  have hn2 := numB_length_le l.length
  have hT : tB ⟨2, d, l⟩ = (numB d.length ++ d.flatMap dgB) ++ (numB l.length ++ l.flatMap dlB) := rfl
  rw [hT]
  clear hT hok hdo hlo
  refine ASpec.enter Tryd.func18 rfl (fun a w => Tryd.call18 a w) Tryd.ntmps18 Tryd.results18 fun base w β hI => ?_
  have hf := fun H => (num1_spec [] (by simp) d.length H).froz
  rw [List.nil_append] at hf
  refine wkE wT (wA h0 (wA hf (wA DrM.mk wT))) ?_
  refine AWP.loop (ι := {i : Nat // i ≤ d.length}) (fun p => ⟨[(1, .ptr H.length 0 0), (4, vB (numB d.length ++ (d.take p.1).flatMap dgB)), (26, .lst 3 (dgG d)), (27, vi d.length), (28, vi p.1)], H ++ [⟨tkC ⟨2, d, l⟩, 0, 0, false⟩]⟩) (fun p => d.length - p.1) ⟨0, Nat.zero_le _⟩ ?_ ?_
  · dsimp only
    rw [List.take_zero, List.flatMap_nil, List.append_nil]
    exact Coe.kp
  · rintro ⟨i, hi⟩
    dsimp only
    by_cases hc : (i : Int) < (d.length : Int)
    · have hg : d[i]? = some d[i] := List.getElem?_eq_getElem (by omega)
      have hC := fm_take dgB hg
      have hle := Nat.le_trans (fm_pre dgB d i) hds
      generalize d[i] = x at *
      obtain ⟨n, g, v⟩ := x
      have hC' : numB d.length ++ (d.take (i + 1)).flatMap dgB = (numB d.length ++ (d.take i).flatMap dgB) ++ numsB [n, g, v] := by rw [hC, List.append_assoc]; rfl
      have hle' : (numB d.length ++ (d.take i).flatMap dgB).length ≤ 1000 := by rw [List.length_append]; omega
      generalize numB d.length ++ (d.take i).flatMap dgB = C at *
      have h3 := fun H => nums3_spec C (by omega) n g v H
      rw [← hC'] at h3
      generalize hG : numB d.length ++ (d.take (i + 1)).flatMap dgB = C' at *
      refine wk (wA hc (wA hg wT)) (wA h3 (wA DrM.mk wT)) ?_
      refine ⟨⟨i + 1, by omega⟩, ?_, by dsimp only; omega⟩
      dsimp only
      rw [hG]
      exact Coe.cutN (M := [_]) (Keeps.kp wT) (fun p hp => by simp only [List.mem_cons, List.not_mem_nil, or_false] at hp; rcases hp with rfl | rfl | rfl | rfl | rfl <;> first | exact .v _ | exact lt_bytes _ | exact lt_dg _ | exact lt_dl _ | exact lt_en _ | exact .ptr _ _ _ (by simp)) (lt_tk ⟨_, d, l⟩)
    · obtain rfl : i = d.length := by omega
      rw [List.take_length]
      have hQ : (numB d.length ++ d.flatMap dgB).length ≤ 300 := by rw [List.length_append]; omega
      generalize numB d.length ++ d.flatMap dgB = Q at *
      have hg2 := fun H => (num1_spec Q (by omega) l.length H).froz
      refine wk (wA hc wT) (wA hg2 (wA DrM.mk wT)) ?_
      clear hg2 hc hf h0
      refine AWP.loop (ι := {i : Nat // i ≤ l.length}) (fun p => ⟨[(1, .ptr H.length 0 0), (4, vB ((Q ++ numB l.length) ++ (l.take p.1).flatMap dlB)), (54, .lst 5 (dlG l)), (55, vi l.length), (56, vi p.1)], H ++ [⟨tkC ⟨2, d, l⟩, 0, 0, false⟩]⟩) (fun p => l.length - p.1) ⟨0, Nat.zero_le _⟩ ?_ ?_
      · dsimp only
        rw [List.take_zero, List.flatMap_nil, List.append_nil]
        exact Coe.kp
      · rintro ⟨i, hi⟩
        dsimp only
        by_cases hc : (i : Int) < (l.length : Int)
        · have hg : l[i]? = some l[i] := List.getElem?_eq_getElem (by omega)
          have hC := fm_take dlB hg
          have hle := Nat.le_trans (fm_pre dlB l i) hls
          have hmx := hmay l[i] (List.getElem_mem _)
          generalize l[i] = x at *
          have hal := dlA_le hmx
          have htb := mayD_tab hmx
          have h45 := num5_le x.n x.f x.s.g x.s.b x.s.a.length
          clear hmx
          obtain ⟨n, f, g, b, a⟩ := x
          dsimp only at hal htb h45
          have hC' : (Q ++ numB l.length) ++ (l.take (i + 1)).flatMap dlB = (((Q ++ numB l.length) ++ (l.take i).flatMap dlB) ++ numsB [n, f, g, b, a.length]) ++ a.flatMap enB := by rw [hC, List.append_assoc _ (numsB _) _, List.append_assoc _ (List.flatMap dlB _) _]; rfl
          have hle' : ((Q ++ numB l.length) ++ (l.take i).flatMap dlB).length ≤ 30000 := by simp only [List.length_append]; omega
          generalize (Q ++ numB l.length) ++ (l.take i).flatMap dlB = C at *
          have h5 := fun H => nums5_spec C (by omega) n f g b a.length H
          have hle2 : (C ++ numsB [n, f, g, b, (a.length : Int)]).length ≤ 30045 := by rw [List.length_append]; omega
          generalize C ++ numsB [n, f, g, b, (a.length : Int)] = D at *
          have hal2 := tabOk_len htb
          refine wk (wA hc (wA hg wT)) (wA h5 (wA DrM.mk wT)) ?_
          clear h5
          refine AWP.loop (ι := {k : Nat // k ≤ a.length}) (fun p => ⟨[(1, .ptr H.length 0 0), (4, vB (D ++ (a.take p.1).flatMap enB)), (54, .lst 5 (dlG l)), (55, vi l.length), (56, vi i), (79, .lst 3 (enG a)), (80, vi a.length), (81, vi p.1)], H ++ [⟨tkC ⟨2, d, l⟩, 0, 0, false⟩]⟩) (fun p => a.length - p.1) ⟨0, Nat.zero_le _⟩ ?_ ?_
          · dsimp only
            rw [List.take_zero, List.flatMap_nil, List.append_nil]
            exact Coe.cutN (M := [_]) (Keeps.kp wT) (fun p hp => by simp only [List.mem_cons, List.not_mem_nil, or_false] at hp; rcases hp with rfl | rfl | rfl | rfl | rfl | rfl | rfl | rfl <;> first | exact .v _ | exact lt_bytes _ | exact lt_dg _ | exact lt_dl _ | exact lt_en _ | exact .ptr _ _ _ (by simp)) (lt_tk ⟨_, d, l⟩)
          · rintro ⟨k, hk⟩
            dsimp only
            by_cases hck : (k : Int) < (a.length : Int)
            · have hgk : a[k]? = some a[k] := List.getElem?_eq_getElem (by omega)
              have hE := fm_take enB hgk
              have hlk := Nat.le_trans (fm_pre enB a k) hal
              have hmy := mayE_iff.1 (tabOk_may htb a[k] (List.getElem_mem _))
              generalize a[k] = y at *
              obtain ⟨yk, yv, ys⟩ := y
              have hys := hmy.2.2.2.2
              dsimp only at hys
              clear hmy htb
              have hE' : D ++ (a.take (k + 1)).flatMap enB = ((D ++ (a.take k).flatMap enB) ++ numsB [yk, yv]) ++ (numB ys.length ++ ys) := by rw [hE, List.append_assoc _ (numsB _) _, List.append_assoc _ (List.flatMap enB _) _]; rfl
              have hlD : (D ++ (a.take k).flatMap enB).length ≤ 40000 := by rw [List.length_append]; omega
              generalize D ++ (a.take k).flatMap enB = C2 at *
              have h2 := fun H => nums2_spec C2 (by omega) yk yv H
              have h22 : (C2 ++ numsB [yk, yv]).length ≤ 40018 := by rw [List.length_append]; have := numsB_length [yk, yv]; simp only [List.length_cons, List.length_nil] at this; omega
              have ht := fun H => (text_spec (C2 ++ numsB [yk, yv]) ys (by omega) (by omega) H).froz
              rw [← hE'] at ht
              generalize C2 ++ numsB [yk, yv] = C3 at *
              generalize hG : D ++ (a.take (k + 1)).flatMap enB = C4 at *
              refine wk (wA hck (wA hgk wT)) (wA h2 (wA ht (wA DrM.mk wT))) ?_
              refine ⟨⟨k + 1, by omega⟩, ?_, by dsimp only; omega⟩
              dsimp only
              rw [hG]
              exact Coe.cutN (M := [_]) (Keeps.kp wT) (fun p hp => by simp only [List.mem_cons, List.not_mem_nil, or_false] at hp; rcases hp with rfl | rfl | rfl | rfl | rfl | rfl | rfl | rfl <;> first | exact .v _ | exact lt_bytes _ | exact lt_dg _ | exact lt_dl _ | exact lt_en _ | exact .ptr _ _ _ (by simp)) (lt_tk ⟨_, d, l⟩)
            · obtain rfl : k = a.length := by omega
              rw [List.take_length]
              rw [← hC']
              refine wk (wA hck wT) (wA DrM.mk wT) ?_
              refine ⟨⟨i + 1, by omega⟩, ?_, by dsimp only; omega⟩
              dsimp only
              exact Coe.kp
        · obtain rfl : i = l.length := by omega
          rw [List.take_length]
          refine wk (wA hc wT) (wA DrM.mk wT) ?_
          refine wkEnd wT ?_
          rw [← List.append_assoc]
          exact Fin.cut (.cons_tup (lt_bytes _) (.cons_tup (.v _) .nil_tup)) ⟨rfl, rfl⟩
set_option maxHeartbeats 8000000 in
theorem tkEncode3_spec (d : List Dg) (l : List Dl) (hok : tkOk ⟨3, d, l⟩ = true) (H : List Box) : ASpec Tryd.prog 18 [.agg (tkC ⟨3, d, l⟩)] H (Gives (.tup [vB (tB ⟨3, d, l⟩), vi 0]) H) := by
  have h0 := fun H => tkRight_spec ⟨3, d, l⟩ (tkOk_in hok) H
  rw [hok] at h0
  obtain ⟨_, _, _, hdo, hlo⟩ := tkOk_parts hok
  dsimp only at hdo hlo h0
  have hds := dgs_le hdo
  have hls := dls_le hlo
  have hmay := dlGo_may hlo
  have hd8 := dgOk_len hdo
  have hl8 := dlOk_len hlo
  have hn1 := numB_length_le d.length
  have hn2 := numB_length_le l.length
  have hT : tB ⟨3, d, l⟩ = ([]) ++ (numB l.length ++ l.flatMap dlB) := rfl
  rw [List.nil_append] at hT
  rw [hT]
  clear hT hok hdo hlo
  refine ASpec.enter Tryd.func18 rfl (fun a w => Tryd.call18 a w) Tryd.ntmps18 Tryd.results18 fun base w β hI => ?_
  have hQ : ([] : List UInt8).length ≤ 300 := by simp
  have hg2 := fun H => (num1_spec [] (by simp) l.length H).froz
  refine wkE wT (wA h0 (wA hg2 (wA DrM.mk wT))) ?_
  clear hg2 h0
  refine AWP.loop (ι := {i : Nat // i ≤ l.length}) (fun p => ⟨[(1, .ptr H.length 0 0), (4, vB ((numB l.length) ++ (l.take p.1).flatMap dlB)), (54, .lst 5 (dlG l)), (55, vi l.length), (56, vi p.1)], H ++ [⟨tkC ⟨3, d, l⟩, 0, 0, false⟩]⟩) (fun p => l.length - p.1) ⟨0, Nat.zero_le _⟩ ?_ ?_
  · dsimp only
    rw [List.take_zero, List.flatMap_nil, List.append_nil]
    exact Coe.kp
  · rintro ⟨i, hi⟩
    dsimp only
    by_cases hc : (i : Int) < (l.length : Int)
    · have hg : l[i]? = some l[i] := List.getElem?_eq_getElem (by omega)
      have hC := fm_take dlB hg
      have hle := Nat.le_trans (fm_pre dlB l i) hls
      have hmx := hmay l[i] (List.getElem_mem _)
      generalize l[i] = x at *
      have hal := dlA_le hmx
      have htb := mayD_tab hmx
      have h45 := num5_le x.n x.f x.s.g x.s.b x.s.a.length
      clear hmx
      obtain ⟨n, f, g, b, a⟩ := x
      dsimp only at hal htb h45
      have hC' : (numB l.length) ++ (l.take (i + 1)).flatMap dlB = (((numB l.length) ++ (l.take i).flatMap dlB) ++ numsB [n, f, g, b, a.length]) ++ a.flatMap enB := by rw [hC, List.append_assoc _ (numsB _) _, List.append_assoc _ (List.flatMap dlB _) _]; rfl
      have hle' : ((numB l.length) ++ (l.take i).flatMap dlB).length ≤ 30000 := by simp only [List.length_append]; omega
      generalize (numB l.length) ++ (l.take i).flatMap dlB = C at *
      have h5 := fun H => nums5_spec C (by omega) n f g b a.length H
      have hle2 : (C ++ numsB [n, f, g, b, (a.length : Int)]).length ≤ 30045 := by rw [List.length_append]; omega
      generalize C ++ numsB [n, f, g, b, (a.length : Int)] = D at *
      have hal2 := tabOk_len htb
      refine wk (wA hc (wA hg wT)) (wA h5 (wA DrM.mk wT)) ?_
      clear h5
      refine AWP.loop (ι := {k : Nat // k ≤ a.length}) (fun p => ⟨[(1, .ptr H.length 0 0), (4, vB (D ++ (a.take p.1).flatMap enB)), (54, .lst 5 (dlG l)), (55, vi l.length), (56, vi i), (79, .lst 3 (enG a)), (80, vi a.length), (81, vi p.1)], H ++ [⟨tkC ⟨3, d, l⟩, 0, 0, false⟩]⟩) (fun p => a.length - p.1) ⟨0, Nat.zero_le _⟩ ?_ ?_
      · dsimp only
        rw [List.take_zero, List.flatMap_nil, List.append_nil]
        exact Coe.cutN (M := [_]) (Keeps.kp wT) (fun p hp => by simp only [List.mem_cons, List.not_mem_nil, or_false] at hp; rcases hp with rfl | rfl | rfl | rfl | rfl | rfl | rfl | rfl <;> first | exact .v _ | exact lt_bytes _ | exact lt_dg _ | exact lt_dl _ | exact lt_en _ | exact .ptr _ _ _ (by simp)) (lt_tk ⟨_, d, l⟩)
      · rintro ⟨k, hk⟩
        dsimp only
        by_cases hck : (k : Int) < (a.length : Int)
        · have hgk : a[k]? = some a[k] := List.getElem?_eq_getElem (by omega)
          have hE := fm_take enB hgk
          have hlk := Nat.le_trans (fm_pre enB a k) hal
          have hmy := mayE_iff.1 (tabOk_may htb a[k] (List.getElem_mem _))
          generalize a[k] = y at *
          obtain ⟨yk, yv, ys⟩ := y
          have hys := hmy.2.2.2.2
          dsimp only at hys
          clear hmy htb
          have hE' : D ++ (a.take (k + 1)).flatMap enB = ((D ++ (a.take k).flatMap enB) ++ numsB [yk, yv]) ++ (numB ys.length ++ ys) := by rw [hE, List.append_assoc _ (numsB _) _, List.append_assoc _ (List.flatMap enB _) _]; rfl
          have hlD : (D ++ (a.take k).flatMap enB).length ≤ 40000 := by rw [List.length_append]; omega
          generalize D ++ (a.take k).flatMap enB = C2 at *
          have h2 := fun H => nums2_spec C2 (by omega) yk yv H
          have h22 : (C2 ++ numsB [yk, yv]).length ≤ 40018 := by rw [List.length_append]; have := numsB_length [yk, yv]; simp only [List.length_cons, List.length_nil] at this; omega
          have ht := fun H => (text_spec (C2 ++ numsB [yk, yv]) ys (by omega) (by omega) H).froz
          rw [← hE'] at ht
          generalize C2 ++ numsB [yk, yv] = C3 at *
          generalize hG : D ++ (a.take (k + 1)).flatMap enB = C4 at *
          refine wk (wA hck (wA hgk wT)) (wA h2 (wA ht (wA DrM.mk wT))) ?_
          refine ⟨⟨k + 1, by omega⟩, ?_, by dsimp only; omega⟩
          dsimp only
          rw [hG]
          exact Coe.cutN (M := [_]) (Keeps.kp wT) (fun p hp => by simp only [List.mem_cons, List.not_mem_nil, or_false] at hp; rcases hp with rfl | rfl | rfl | rfl | rfl | rfl | rfl | rfl <;> first | exact .v _ | exact lt_bytes _ | exact lt_dg _ | exact lt_dl _ | exact lt_en _ | exact .ptr _ _ _ (by simp)) (lt_tk ⟨_, d, l⟩)
        · obtain rfl : k = a.length := by omega
          rw [List.take_length]
          rw [← hC']
          refine wk (wA hck wT) (wA DrM.mk wT) ?_
          refine ⟨⟨i + 1, by omega⟩, ?_, by dsimp only; omega⟩
          dsimp only
          exact Coe.kp
    · obtain rfl : i = l.length := by omega
      rw [List.take_length]
      refine wk (wA hc wT) (wA DrM.mk wT) ?_
      refine wkEnd wT ?_
      exact Fin.cut (.cons_tup (lt_bytes _) (.cons_tup (.v _) .nil_tup)) ⟨rfl, rfl⟩

end Go.Proofs.YtjkdahpoalnjjaaDoor.VL

/- Layer 20: a talk's payload, as the program lays it: all kinds. -/
-- STEPWISE
-- WK
set_option linter.unusedVariables false
set_option linter.unusedSimpArgs false
set_option maxRecDepth 10000
namespace Go.Proofs.YtjkdahpoalnjjaaDoor.VL
open Go Go.RowKit Go.Lib

theorem Fin.empB {E : Ent} {N : List Box} {f : Value} {K : AV → List Box → Prop} (h : K (.tup [vB [], .v f]) E.H) : Fin E (.tup [.emp, .v f]) (E.H ++ N) K :=
  ⟨_, _, Shed.trans (Shed.weak fun w β v hr => rep_tup_sw (fun x hx => by cases hx with | emp a => exact .lst0 _ _ _) hr) (Shed.cut (Lt.cons_tup (lt_bytes _) (Lt.cons_tup (.v _) .nil_tup))), h⟩
abbrev beV (p : List UInt8 × Int) : AV := .tup [vB p.1, vi p.2]

theorem tkEncode_spec (t : Tk) (ht : TkIn t) (H : List Box) : ASpec Tryd.prog 18 [.agg (tkC t)] H (Gives (beV (encT t)) H) := by
  unfold encT
  cases hok : tkOk t with
  | false =>
    have h0 := fun H => tkRight_spec t ht H
    rw [hok] at h0
    rw [if_neg (by simp)]
    refine ASpec.enter Tryd.func18 rfl (fun a w => Tryd.call18 a w) Tryd.ntmps18 Tryd.results18 fun base w β hI => ?_
    refine wk wT (wA h0 (wA DrM.mk wT)) ?_
    refine wkEnd wT ?_
    exact Fin.empB ⟨rfl, rfl⟩
  | true =>
    rw [if_pos rfl]
    obtain ⟨⟨k1, k8⟩, hd, hl, _, _⟩ := tkOk_parts hok
    obtain ⟨k, d, l⟩ := t
    dsimp only at k1 k8 hd hl
    rcases (show k = 1 ∨ k = 2 ∨ k = 3 ∨ k = 4 ∨ k = 5 ∨ k = 6 ∨ k = 7 by omega) with rfl | rfl | rfl | rfl | rfl | rfl | rfl
    · exact tkEncode1_spec d l hok H
    · exact tkEncode2_spec d l hok H
    · exact tkEncode3_spec d l hok H
    all_goals
      have h0 := fun H => tkRight_spec _ ht H
      rw [hok] at h0
      rw [show tB _ = [] from rfl]
      refine ASpec.enter Tryd.func18 rfl (fun a w => Tryd.call18 a w) Tryd.ntmps18 Tryd.results18 fun base w β hI => ?_
      refine wk wT (wA h0 (wA DrM.mk wT)) ?_
      refine wkEnd wT ?_
      exact Fin.empB ⟨rfl, rfl⟩

/-- What Wrap answers. -/
def frT (t : Tk) (c : List UInt8) (n : Int) : Fr := ⟨t.k, c, n, tB t⟩
def wrapT (t : Tk) (c : List UInt8) (n : Int) : AV := if tkOk t then encV (frT t c n) else .tup [.emp, vi 1]
theorem wrap_spec (t : Tk) (ht : TkIn t) (c : List UInt8) (hc : c.length ≤ 9223372036854775807) (n : Int) (H : List Box) : ASpec Tryd.prog 16 [.agg (tkC t), vs c, vi n] H (Gives (wrapT t c n) H) := by
  have h0 := fun H => tkEncode_spec t ht H
  unfold wrapT
  unfold encT at h0
  cases hok : tkOk t with
  | false =>
    rw [hok, if_neg (by simp)] at h0
    rw [if_neg (by simp)]
    refine ASpec.enter Tryd.func16 rfl (fun a w => Tryd.call16 a w) Tryd.ntmps16 Tryd.results16 fun base w β hI => ?_
    refine wk wT (wA h0 (wA DrM.mk wT)) ?_
    refine wkEnd wT ?_
    exact Fin.cut (.cons_tup .emp (.cons_tup (.v _) .nil_tup)) ⟨rfl, rfl⟩
  | true =>
    rw [hok, if_pos rfl] at h0
    rw [if_pos rfl]
    have h1 := fun H => encode_spec (frT t c n) (Nat.le_trans (tB_le hok) (by omega)) hc H
    unfold encV at h1 ⊢
    cases hr : frRight (frT t c n) with
    | true =>
      rw [hr, if_pos rfl] at h1
      rw [if_pos rfl]
      generalize frB (frT t c n) = X at *
      unfold frT at h1
      try dsimp only at h1 h0
      generalize tB t = B at *
      obtain ⟨k, d, l⟩ := t
      refine ASpec.enter Tryd.func16 rfl (fun a w => Tryd.call16 a w) Tryd.ntmps16 Tryd.results16 fun base w β hI => ?_
      refine wk wT (wA h0 (wA h1 (wA DrM.mk wT))) ?_
      refine wkEnd wT ?_
      exact Fin.cut (.cons_tup (lt_bytes _) (.cons_tup (.v _) .nil_tup)) ⟨rfl, rfl⟩
    | false =>
      rw [hr, if_neg (by simp)] at h1
      rw [if_neg (by simp)]
      unfold frT at h1
      try dsimp only at h1 h0
      generalize tB t = B at *
      obtain ⟨k, d, l⟩ := t
      refine ASpec.enter Tryd.func16 rfl (fun a w => Tryd.call16 a w) Tryd.ntmps16 Tryd.results16 fun base w β hI => ?_
      refine wk wT (wA h0 (wA h1 (wA DrM.mk wT))) ?_
      refine wkEnd wT ?_
      exact Fin.cut (.cons_tup .emp (.cons_tup (.v _) .nil_tup)) ⟨rfl, rfl⟩

end Go.Proofs.YtjkdahpoalnjjaaDoor.VL

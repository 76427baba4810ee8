/- Layer 18: what is told of a name: the loop over endpoints. -/
import Derived.Test.YtnlmdeeadldgmaaGreatDoorZG36
import Derived.Test.YtnlmdeeadldgmaaGreatDoorZG35
import Derived.Test.YtnlmdeeadldgmaaGreatDoorZG25
-- STEPWISE
-- WK
set_option linter.unusedVariables false
set_option linter.unusedSimpArgs false
set_option maxRecDepth 10000
namespace Go.Proofs.YtnlmdeeadldgmaaGreatDoor.VL
open Go Go.RowKit Go.Lib

def tlN (name : List UInt8) (t : Int) (l : List (List UInt8)) : List Rr := l.map (toldN name t)
theorem tlN_app (name : List UInt8) (t : Int) (l m : List (List UInt8)) : tlN name t (l ++ m) = tlN name t l ++ tlN name t m := by simp [tlN]
theorem tlN_one (name : List UInt8) (t : Int) (x : List UInt8) : tlN name t [x] = [toldN name t x] := rfl
def accN (s : Sc) (name : List UInt8) (t : Int) (C : List Nd) : List Rr := tlN name t (C.flatMap (tellX s.d name t))
theorem accN_snoc (s : Sc) (name : List UInt8) (t : Int) (C : List Nd) (x : Nd) : accN s name t (C ++ [x]) = accN s name t C ++ tlN name t (tellX s.d name t x) := by
  unfold accN
  rw [List.flatMap_append, tlN_app]
  simp
theorem offL_len {d name : List UInt8} {x : Nd} (hx : NdIn x) : (offL d x name).length ≤ 1048576 := by
  have h1 := prs_len x.s.a
  have h2 := hx.a
  have h3 : (offL d x name).length ≤ (allS x.s.a).length := List.length_filter_le _ _
  unfold allS at h3
  rw [List.length_map] at h3
  omega
theorem tellX_len {d name : List UInt8} {t : Int} {x : Nd} (hx : NdIn x) : (tellX d name t x).length ≤ 1048576 := by
  have := offL_len (d := d) (name := name) hx
  unfold tellX
  split
  · split <;> simp
  · split
    · split
      · rw [List.length_map]; exact this
      · simp
    · simp
theorem accN_len {s : Sc} {name : List UInt8} {t : Int} : ∀ {C : List Nd}, (∀ x ∈ C, NdIn x) → (accN s name t C).length ≤ C.length * 1048576
  | [], _ => by simp [accN, tlN]
  | x :: C, h => by
    have h1 := tellX_len (d := s.d) (name := name) (t := t) (h x (by simp))
    have h2 := accN_len (s := s) (name := name) (t := t) (C := C) fun y hy => h y (by simp [hy])
    have : accN s name t (x :: C) = tlN name t (tellX s.d name t x) ++ accN s name t C := by unfold accN; rw [List.flatMap_cons, tlN_app]
    rw [this, List.length_append, show (tlN name t (tellX s.d name t x)).length = (tellX s.d name t x).length by simp [tlN], List.length_cons, Nat.succ_mul]
    omega
abbrev keysM : Array MapEntry := #[⟨.int .i64 1, .int .i64 1, 0⟩, ⟨.int .i64 28, .int .i64 2, 1⟩]
theorem lt_tlM {n k : Nat} (h : k + 5 ≤ n) (s : Sc) (name : List UInt8) (t : Int) (g : Nat) (acc : List Rr) : ∀ bx ∈ tlM k s name t g acc [], ∀ c ∈ bx.cells, Lt n c := fun bx hbx c hc => by
  simp only [List.mem_cons, List.not_mem_nil, or_false] at hbx
  rcases hbx with rfl | rfl | rfl | rfl | rfl
  · exact lt_scC s hc
  · simp at hc; subst hc; exact .v _
  · simp at hc; subst hc; exact .v _
  · simp at hc; subst hc; exact .sl _ _ _ _ _ _ (by omega)
  · exact lt_rrS hc
theorem tlM_mem {k : Nat} {s : Sc} {name : List UInt8} {t : Int} {g : Nat} {acc : List Rr} {N : List Box} {bx : Box} (h : bx ∈ tlM k s name t g acc N) : bx ∈ tlM k s name t g acc [] ∨ bx ∈ N := by
  rw [show tlM k s name t g acc N = tlM k s name t g acc [] ++ N from rfl] at h
  exact List.mem_append.1 h
/-- The slots of the loop. -/
abbrev tlS (k : Nat) (C : List Nd) (i : Nat) : List (Nat × AV) := [(3, .ptr k 0 0), (4, .ptr (k + 1) 0 0), (5, .ptr (k + 2) 0 0), (7, .ptr (k + 3) 0 0), (8, .fn 67 [.ptr (k + 3) 0 0, .ptr (k + 1) 0 0, .ptr (k + 2) 0 0]), (9, .mp keysM), (22, .lst 4 (ndG C)), (23, vi C.length), (24, vi i)]
theorem lt_tlS {n k : Nat} (h : k + 5 ≤ n) (C : List Nd) (i : Nat) : ∀ p ∈ tlS k C i, Lt n p.2 := fun p hp => by
  simp only [List.mem_cons, List.not_mem_nil, or_false] at hp
  rcases hp with rfl | rfl | rfl | rfl | rfl | rfl | rfl | rfl | rfl
  · exact .ptr _ _ _ (by omega)
  · exact .ptr _ _ _ (by omega)
  · exact .ptr _ _ _ (by omega)
  · exact .ptr _ _ _ (by omega)
  · exact .fn _ _ fun i c hi => by rcases i with _ | _ | _ | i <;> simp at hi <;> subst hi <;> exact .ptr _ _ _ (by omega)
  · exact .mp _
  · exact lt_nd _
  · exact .v _
  · exact .v _
theorem tl_cut {E : Ent} {l : List (Nat × AV)} {C : List Nd} {i : Nat} {s : Sc} {name : List UInt8} {t : Int} {g : Nat} {acc : List Rr} {N : List Box} (hk : Keeps l (tlS E.H.length C i)) :
    Coe E ⟨l, E.H ++ tlM E.H.length s name t g acc N⟩ ⟨tlS E.H.length C i, E.H ++ tlM E.H.length s name t g acc []⟩ :=
  Coe.cutN (M := tlM E.H.length s name t g acc []) hk (lt_tlS (by simp) C i) (lt_tlM (by simp) s name t g acc)

set_option maxHeartbeats 8000000 in
theorem tell_loop (s : Sc) (name : List UInt8) (t : Int) (C : List Nd) (hC : C.length ≤ 1048576) (hx : ∀ x ∈ C, NdIn x) (hd : s.d.length ≤ 1048576) (hn : name.length ≤ 9223372036854775807)
    (E : Ent) (hE : E.n = 106) (Q : AExit → ASt → Prop) (body : Code) (hbody : (Tryz.f26.body).bind firstLoop = some body)
    (hQ : ∀ k g, lk k 3 = .ptr E.H.length 0 0 → lk k 4 = .ptr (E.H.length + 1) 0 0 → lk k 5 = .ptr (E.H.length + 2) 0 0 → lk k 7 = .ptr (E.H.length + 3) 0 0 → lk k 8 = .fn 67 [.ptr (E.H.length + 3) 0 0, .ptr (E.H.length + 1) 0 0, .ptr (E.H.length + 2) 0 0] →
      Q (.exit 0) ⟨k, E.H ++ tlM E.H.length s name t g (accN s name t C) []⟩) :
    AWP Tryz.prog E (.loop body) Q ⟨tlS E.H.length C 0, E.H ++ tlM E.H.length s name t 0 [] []⟩ := by
  obtain ⟨base, ne, w, H, β, hI, ds⟩ := E
  dsimp only at hE hQ ⊢
  subst hE
  dsimp only [firstLoop, Option.bind, Tryz.f26] at hbody
  injection hbody with hbody
  subst hbody
  refine AWP.loop (ι := {p : Nat × Nat // p.1 ≤ C.length}) (fun p => ⟨tlS H.length C p.1.1, H ++ tlM H.length s name t p.1.2 (accN s name t (C.take p.1.1)) []⟩) (fun p => C.length - p.1.1) ⟨(0, 0), Nat.zero_le _⟩ ?_ ?_
  · dsimp only [List.take_zero, accN, tlN, List.flatMap_nil, List.map_nil]
    exact Coe.refl _ _
  · rintro ⟨⟨i, g⟩, hi⟩
    dsimp only at hi ⊢
    by_cases hc : (i : Int) < (C.length : Int)
    · have hg : C[i]? = some C[i] := List.getElem?_eq_getElem (by omega)
      have hxi := hx _ (List.getElem_mem (show i < C.length by omega))
      generalize C[i] = x at hg hxi
      have hsn := accN_snoc s name t (C.take i) x
      rw [← take_snoc hg] at hsn
      have hal := accN_len (s := s) (name := name) (t := t) (C := C.take i) fun y hy => hx y (List.mem_of_mem_take hy)
      have hal : (accN s name t (C.take i)).length ≤ 1099511627776 := by
        refine Nat.le_trans hal ?_
        rw [List.length_take]
        exact Nat.mul_le_mul (show min i C.length ≤ 1048576 by omega) (Nat.le_refl 1048576)
      have hho := fun H => host_spec s x.n (by omega) H
      have hhs := fun H => hosts_spec s x name (by omega) hn H
      have hkl : (#[⟨.int .i64 1, .int .i64 1, 0⟩, ⟨.int .i64 28, .int .i64 2, 1⟩] : Array MapEntry).toList = [⟨.int .i64 1, .int .i64 1, 0⟩, ⟨.int .i64 28, .int .i64 2, 1⟩] := rfl
      have hg2 := hg
      by_cases ht : t = 1
      · subst ht
        have had := fun H => address_spec x.s.a 1 (by have := hxi.a; omega) H
        have htx : tellX s.d name 1 x = if hosts s.d x name = true then (if (addrE x.s.a 1).2 then [(addrE x.s.a 1).1] else []) else [] := by simp [tellX, keyN]
        rw [htx] at hsn
        generalize accN s name 1 (C.take i) = A at *
        generalize hA' : accN s name 1 (C.take (i + 1)) = A' at *
        generalize hosts s.d x name = q at *
        generalize hostN s.d x.n = h at *
        generalize addrE x.s.a 1 = ad at *
        obtain ⟨ad, aok⟩ := ad
        obtain ⟨h, ok⟩ := h
        obtain ⟨n, ⟨xg, b, ap⟩⟩ := x
        clear htx hxi hg2
        have hg := hg
        dsimp only at *
        cases q with
        | true =>
          cases aok with
          | true =>
            have hT : ∀ N, ASpec Tryz.prog 67 [vs ad, vb true, .ptr (H.length + 3) 0 0, .ptr (H.length + 1) 0 0, .ptr (H.length + 2) 0 0] (H ++ tlM H.length s name 1 g A N) (fun o H' => o = .ret (.tup []) ∧ H' = H ++ tlM H.length s name 1 (g + 1) A' N) := fun N => by
              have h := tell1_ok s name 1 g A N ad (by omega) H
              rw [hsn]
              exact h
            refine wk (wA hc (wA hg (wA hkl wT))) (wA hho (wA hhs (wA had (wA hT (wA DrM.mk wT))))) ?_
            refine ⟨⟨(i + 1, g + 1), by dsimp only; omega⟩, ?_, by dsimp only; omega⟩
            dsimp only
            rw [hA']
            exact tl_cut (i := i + 1) (Keeps.kp wT)
          | false =>
            have hT := fun N => tell1_no s name 1 g A N ad H
            have he : A' = A := by rw [hsn]; simp [tlN]
            rw [he] at hA'
            refine wk (wA hc (wA hg (wA hkl wT))) (wA hho (wA hhs (wA had (wA hT (wA DrM.mk wT))))) ?_
            refine ⟨⟨(i + 1, g), by dsimp only; omega⟩, ?_, by dsimp only; omega⟩
            dsimp only
            rw [hA']
            exact tl_cut (i := i + 1) (Keeps.kp wT)
        | false =>
          have he : A' = A := by rw [hsn]; simp [tlN]
          rw [he] at hA'
          refine wk (wA hc (wA hg (wA hkl wT))) (wA hho (wA hhs (wA DrM.mk wT))) ?_
          refine ⟨⟨(i + 1, g), by dsimp only; omega⟩, ?_, by dsimp only; omega⟩
          dsimp only
          rw [hA']
          exact tl_cut (i := i + 1) (Keeps.kp wT)
      by_cases ht : t = 28
      · subst ht
        have had := fun H => address_spec x.s.a 2 (by have := hxi.a; omega) H
        have htx : tellX s.d name 28 x = if hosts s.d x name = true then (if (addrE x.s.a 2).2 then [(addrE x.s.a 2).1] else []) else [] := by simp [tellX, keyN]
        rw [htx] at hsn
        generalize accN s name 28 (C.take i) = A at *
        generalize hA' : accN s name 28 (C.take (i + 1)) = A' at *
        generalize hosts s.d x name = q at *
        generalize hostN s.d x.n = h at *
        generalize addrE x.s.a 2 = ad at *
        obtain ⟨ad, aok⟩ := ad
        obtain ⟨h, ok⟩ := h
        obtain ⟨n, ⟨xg, b, ap⟩⟩ := x
        clear htx hxi hg2
        have hg := hg
        dsimp only at *
        cases q with
        | true =>
          cases aok with
          | true =>
            have hT : ∀ N, ASpec Tryz.prog 67 [vs ad, vb true, .ptr (H.length + 3) 0 0, .ptr (H.length + 1) 0 0, .ptr (H.length + 2) 0 0] (H ++ tlM H.length s name 28 g A N) (fun o H' => o = .ret (.tup []) ∧ H' = H ++ tlM H.length s name 28 (g + 1) A' N) := fun N => by
              have h := tell1_ok s name 28 g A N ad (by omega) H
              rw [hsn]
              exact h
            refine wk (wA hc (wA hg (wA hkl wT))) (wA hho (wA hhs (wA had (wA hT (wA DrM.mk wT))))) ?_
            refine ⟨⟨(i + 1, g + 1), by dsimp only; omega⟩, ?_, by dsimp only; omega⟩
            dsimp only
            rw [hA']
            exact tl_cut (i := i + 1) (Keeps.kp wT)
          | false =>
            have hT := fun N => tell1_no s name 28 g A N ad H
            have he : A' = A := by rw [hsn]; simp [tlN]
            rw [he] at hA'
            refine wk (wA hc (wA hg (wA hkl wT))) (wA hho (wA hhs (wA had (wA hT (wA DrM.mk wT))))) ?_
            refine ⟨⟨(i + 1, g), by dsimp only; omega⟩, ?_, by dsimp only; omega⟩
            dsimp only
            rw [hA']
            exact tl_cut (i := i + 1) (Keeps.kp wT)
        | false =>
          have he : A' = A := by rw [hsn]; simp [tlN]
          rw [he] at hA'
          refine wk (wA hc (wA hg (wA hkl wT))) (wA hho (wA hhs (wA DrM.mk wT))) ?_
          refine ⟨⟨(i + 1, g), by dsimp only; omega⟩, ?_, by dsimp only; omega⟩
          dsimp only
          rw [hA']
          exact tl_cut (i := i + 1) (Keeps.kp wT)
      have hz : (Tryz.prog.info? 3).bind (fun x => x.zero) = some (.int .i64 0) := by kernel_rfl
      obtain ⟨inf, hz1, hz2⟩ := Option.bind_eq_some_iff.1 hz
      clear hz
      have hb1 : (t == 1) = false := by simp [*]
      have hb2 : (t == 28) = false := by simp [*]
      by_cases ht : t = 33
      · subst ht
        have hof := fun H => offers_spec s x name (by omega) hn hxi H
        have hol := offL_len (d := s.d) (name := name) hxi
        have htx : tellX s.d name 33 x = if (hostN s.d x.n).2 then (offL s.d x name).map fun v => bes 2 [v.i, v.w, v.o] ++ (hostN s.d x.n).1 else [] := by simp [tellX, keyN]
        have hhl : (hostN s.d x.n).1.length ≤ 255 := by
          unfold hostN
          split
          · exact winN_len _ _
          · simp
        rw [htx] at hsn
        generalize accN s name 33 (C.take i) = A at *
        generalize hA' : accN s name 33 (C.take (i + 1)) = A' at *
        generalize offL s.d x name = O at *
        generalize hostN s.d x.n = h at *
        obtain ⟨h, ok⟩ := h
        clear htx hxi hhs ht hb1 hb2
        obtain ⟨n, ⟨xg, b, ap⟩⟩ := x
        dsimp only at *
        have hb1 : ((33 : Int) == 1) = false := rfl
        have hb2 : ((33 : Int) == 28) = false := rfl
        refine wk (wA hc (wA hg (wA hkl (wA hz1 (wA hz2 (wA hb1 (wA hb2 wT))))))) (wA hho (wA hof (wA DrM.mk wT))) ?_
        cases ok with
        | true =>
          rw [if_pos rfl] at hsn
          refine AWP.loop (ι := {p : Nat × Nat // p.1 ≤ O.length}) (fun p => ⟨(12, vs h) :: (13, vb true) :: (64, .lst 6 (svG O)) :: (65, vi O.length) :: (66, vi p.1.1) :: tlS H.length C i, H ++ tlM H.length s name 33 p.1.2 (A ++ tlN name 33 ((O.take p.1.1).map fun v => bes 2 [v.i, v.w, v.o] ++ h)) [⟨[vi n, vi xg, vi b, .lst 3 (enG ap)], 0, 0, false⟩]⟩) (fun p => O.length - p.1.1) ⟨(0, g), Nat.zero_le _⟩ ?_ ?_
          · simp only [List.take_zero, tlN, List.map_nil, List.append_nil]
            exact Coe.kp
          · rintro ⟨⟨k, g'⟩, hk⟩
            dsimp only at hk ⊢
            by_cases hck : (k : Int) < (O.length : Int)
            · have hgo : O[k]? = some O[k] := List.getElem?_eq_getElem (by omega)
              generalize O[k] = v at hgo
              have hnu : ∀ H, ASpec Tryz.prog 56 [vi 2, .lst 1 [[vi v.i], [vi v.w], [vi v.o]]] H (Gives (vB (bes 2 [v.i, v.w, v.o])) H) := fun H => numbers_spec 2 [v.i, v.w, v.o] (by simp) (by simp) H
              have hbl := bes_length 2 [v.i, v.w, v.o]
              simp only [List.length_cons, List.length_nil] at hbl
              have he : A ++ tlN name 33 ((O.take (k + 1)).map fun v => bes 2 [v.i, v.w, v.o] ++ h) = A ++ tlN name 33 ((O.take k).map fun v => bes 2 [v.i, v.w, v.o] ++ h) ++ [toldN name 33 (bes 2 [v.i, v.w, v.o] ++ h)] := by
                rw [take_snoc hgo, List.map_append, tlN_app, List.append_assoc]
                rfl
              have hBl : (A ++ tlN name 33 ((O.take k).map fun v => bes 2 [v.i, v.w, v.o] ++ h)).length ≤ 1099511627776 + k := by
                rw [List.length_append, tlN, List.length_map, List.length_map, List.length_take]
                omega
              have hT0 := fun N => tell1_ok s name 33 g' (A ++ tlN name 33 ((O.take k).map fun v => bes 2 [v.i, v.w, v.o] ++ h)) N (bes 2 [v.i, v.w, v.o] ++ h) (by omega) H
              generalize A ++ tlN name 33 ((O.take k).map fun v => bes 2 [v.i, v.w, v.o] ++ h) = B at *
              generalize hB' : A ++ tlN name 33 ((O.take (k + 1)).map fun v => bes 2 [v.i, v.w, v.o] ++ h) = B' at *
              rw [← he] at hT0
              generalize bes 2 [v.i, v.w, v.o] = db at *
              obtain ⟨xn, xp, xo, xi, xw, xl⟩ := v
              dsimp only at *
              refine wk (wA hck (wA hgo (wA strApp (wA hbl wT)))) (wA hnu (wA hT0 (wA DrM.mk wT))) ?_
              refine ⟨⟨(k + 1, g' + 1), by dsimp only; omega⟩, ?_, by dsimp only; omega⟩
              dsimp only
              rw [hB']
              refine Coe.cutN (M := tlM H.length s name 33 (g' + 1) B' [⟨[vi n, vi xg, vi b, .lst 3 (enG ap)], 0, 0, false⟩]) (Keeps.kp wT) (fun p hp => ?_) (fun bx hbx c hc => ?_)
              · rcases List.mem_cons.1 hp with rfl | hp
                · exact .v _
                rcases List.mem_cons.1 hp with rfl | hp
                · exact .v _
                rcases List.mem_cons.1 hp with rfl | hp
                · exact lt_sv _
                rcases List.mem_cons.1 hp with rfl | hp
                · exact .v _
                rcases List.mem_cons.1 hp with rfl | hp
                · exact .v _
                exact lt_tlS (by simp) C i p hp
              · rcases tlM_mem (N := [⟨[vi n, vi xg, vi b, .lst 3 (enG ap)], 0, 0, false⟩]) hbx with hm | hm
                · exact lt_tlM (by simp) s name 33 (g' + 1) B' bx hm c hc
                · rw [List.mem_singleton] at hm
                  subst hm
                  simp only [List.mem_cons, List.not_mem_nil, or_false] at hc
                  rcases hc with rfl | rfl | rfl | rfl <;> first | exact .v _ | exact lt_en _
            · have hkl : k = O.length := by omega
              subst hkl
              rw [List.take_length, ← hsn]
              refine wk (wA hck wT) (wA DrM.mk wT) ?_
              refine ⟨⟨(i + 1, g'), by dsimp only; omega⟩, ?_, by dsimp only; omega⟩
              dsimp only
              rw [hA']
              exact tl_cut (i := i + 1) (Keeps.kp wT)
        | false =>
          have he : A' = A := by rw [hsn]; simp [tlN]
          rw [he] at hA'
          refine AWP.loop (ι := {k : Nat // k ≤ O.length}) (fun p => ⟨(12, vs h) :: (13, vb false) :: (64, .lst 6 (svG O)) :: (65, vi O.length) :: (66, vi p.1) :: tlS H.length C i, H ++ tlM H.length s name 33 g A [⟨[vi n, vi xg, vi b, .lst 3 (enG ap)], 0, 0, false⟩]⟩) (fun p => O.length - p.1) ⟨0, Nat.zero_le _⟩ ?_ ?_
          · exact Coe.kp
          · rintro ⟨k, hk⟩
            dsimp only
            by_cases hck : (k : Int) < (O.length : Int)
            · have hgo : O[k]? = some O[k] := List.getElem?_eq_getElem (by omega)
              generalize O[k] = v at hgo
              have hnu : ∀ H, ASpec Tryz.prog 56 [vi 2, .lst 1 [[vi v.i], [vi v.w], [vi v.o]]] H (Gives (vB (bes 2 [v.i, v.w, v.o])) H) := fun H => numbers_spec 2 [v.i, v.w, v.o] (by simp) (by simp) H
              have hbl := bes_length 2 [v.i, v.w, v.o]
              simp only [List.length_cons, List.length_nil] at hbl
              have hT0 := fun N => tell1_no s name 33 g A N (bes 2 [v.i, v.w, v.o] ++ h) H
              generalize bes 2 [v.i, v.w, v.o] = db at *
              obtain ⟨xn, xp, xo, xi, xw, xl⟩ := v
              dsimp only at *
              refine wk (wA hck (wA hgo (wA strApp (wA hbl wT)))) (wA hnu (wA hT0 (wA DrM.mk wT))) ?_
              refine ⟨⟨k + 1, by omega⟩, ?_, by dsimp only; omega⟩
              dsimp only
              refine Coe.cutN (M := tlM H.length s name 33 g A [⟨[vi n, vi xg, vi b, .lst 3 (enG ap)], 0, 0, false⟩]) (Keeps.kp wT) (fun p hp => ?_) (fun bx hbx c hc => ?_)
              · rcases List.mem_cons.1 hp with rfl | hp
                · exact .v _
                rcases List.mem_cons.1 hp with rfl | hp
                · exact .v _
                rcases List.mem_cons.1 hp with rfl | hp
                · exact lt_sv _
                rcases List.mem_cons.1 hp with rfl | hp
                · exact .v _
                rcases List.mem_cons.1 hp with rfl | hp
                · exact .v _
                exact lt_tlS (by simp) C i p hp
              · rcases tlM_mem (N := [⟨[vi n, vi xg, vi b, .lst 3 (enG ap)], 0, 0, false⟩]) hbx with hm | hm
                · exact lt_tlM (by simp) s name 33 g A bx hm c hc
                · rw [List.mem_singleton] at hm
                  subst hm
                  simp only [List.mem_cons, List.not_mem_nil, or_false] at hc
                  rcases hc with rfl | rfl | rfl | rfl <;> first | exact .v _ | exact lt_en _
            · refine wk (wA hck wT) (wA DrM.mk wT) ?_
              refine ⟨⟨(i + 1, g), by dsimp only; omega⟩, ?_, by dsimp only; omega⟩
              dsimp only
              rw [hA']
              exact tl_cut (i := i + 1) (Keeps.kp wT)
      · have htx : tellX s.d name t x = [] := by
          rename_i h1 h2
          simp [tellX, keyN, *]
        rw [htx] at hsn
        generalize accN s name t (C.take i) = A at *
        generalize hA' : accN s name t (C.take (i + 1)) = A' at *
        have he : A' = A := by rw [hsn]; simp [tlN]
        rw [he] at hA'
        generalize hostN s.d x.n = h at *
        obtain ⟨n, ⟨xg, b, ap⟩⟩ := x
        dsimp only at *
        refine wk (wA hc (wA hg (wA hkl (wA hz1 (wA hz2 (wA hb1 (wA hb2 (wA ht wT)))))))) (wA hho (wA DrM.mk wT)) ?_
        refine ⟨⟨(i + 1, g), by dsimp only; omega⟩, ?_, by dsimp only; omega⟩
        dsimp only
        rw [hA']
        exact tl_cut (i := i + 1) (Keeps.kp wT)
    · have hil : i = C.length := by omega
      subst hil
      rw [List.take_length]
      refine wk (wA hc wT) (wA DrM.mk wT) ?_
      exact hQ _ _ rfl rfl rfl rfl rfl

end Go.Proofs.YtnlmdeeadldgmaaGreatDoor.VL

/- Layer 18: what is told of a name. -/
-- STEPWISE
-- WK
-- OWN 3
set_option linter.unusedVariables false
set_option linter.unusedSimpArgs false
set_option maxRecDepth 10000
namespace Go.Proofs.YtnlmdeeadldgmaaGreatDoor.VL
open Go Go.RowKit Go.Lib

theorem tellN_eq (s : Sc) (name : List UInt8) (t : Int) : tellN s name t = accN s name t (cntL s) ++ tlN name t (if (t = 2 ∨ t = 6) ∧ sameN name s.d = true then (if (apexN s.d t).2 then [(apexN s.d t).1] else []) else []) := by
  unfold tellN tellD accN tlN
  rw [List.map_append]
theorem tl_first (H : List Box) (sb nb tb : Box) : (H ++ [sb, nb, tb, ⟨[.emp], 0, 0, false⟩] ++ [(⟨[], 0, 0, true⟩ : Box)]).set (H.length + 3) ⟨[AV.emp].set 0 (.sl (H ++ [sb, nb, tb, ⟨[.emp], 0, 0, false⟩]).length 0 0 0 5 false), 0, 0, false⟩ =
    H ++ [sb, nb, tb, ⟨[.sl (H.length + 4) 0 0 0 5 false], 0, 0, false⟩, ⟨[], 0, 0, true⟩] := by
  rw [List.append_assoc, List.set_append_right _ _ (by omega), Nat.add_sub_cancel_left]
  simp
theorem fin_tl {E : Ent} {s : Sc} {name : List UInt8} {t : Int} {g n : Nat} {acc : List Rr} {N : List Box} (hn : n = acc.length) :
    Fin E (.sl (E.H.length + 4) g 0 n 5 false) (E.H ++ tlM E.H.length s name t g acc N) (fun r H => Gives (.lst 5 (rrG acc)) E.H (.ret r) H) := by
  subst hn
  exact Fin.frozG (G := rrG acc) (b := E.H.length + 4) (zbox _ _ 4 rfl) (Nat.le_add_right _ _) rfl (by dsimp only; rw [rrS_length]; omega) (chunk_rrS acc) (fun w H β v hx hr => hx v hr) (lt_rr _) ⟨rfl, rfl⟩

set_option maxHeartbeats 8000000 in
theorem tell_spec (s : Sc) (name : List UInt8) (t : Int) (hs : ScIn s) (hn : name.length ≤ 9223372036854775807) (H : List Box) : ASpec Tryz.prog 26 [.agg (scC s), vs name, vi t] H (Gives (.lst 5 (rrG (tellN s name t))) H) := by
  have hd := hs.d
  have hc := fun H => counted_spec s hs H
  have hcl : (cntL s).length ≤ 1048576 := by
    have : (cntL s).length ≤ s.v.length := List.length_filter_le _ _
    have := hs.v
    omega
  have hsm := fun H => labSame_spec name s.d hn (by omega) H
  have hap := fun H => apex_spec s t hd H
  have hlp := tell_loop s name t (cntL s) hcl (fun x hx => hs.c hx) hd hn
  have hal := accN_len (s := s) (name := name) (t := t) (C := cntL s) fun y hy => hs.c hy
  have hal : (accN s name t (cntL s)).length ≤ 1099511627776 := Nat.le_trans hal (Nat.mul_le_mul hcl (Nat.le_refl 1048576))
  rw [tellN_eq]
  generalize cntL s = C at *
  generalize hA : accN s name t C = A at *
  generalize hq : sameN name s.d = q at *
  generalize apexN s.d t = ap at *
  obtain ⟨ad, aok⟩ := ap
  clear hs
  dsimp only at *
  refine ASpec.enter Tryz.func26 rfl (fun a w => Tryz.call26 a w) Tryz.ntmps26 Tryz.results26 fun base w β hI => ?_
  refine wk wT (wA hc (wA ((OwnM.mk (id := 3))) (wA DrM.mk wT))) ?_
  refine AWP.coe ?_ (hlp ⟨base, 106, w, H, β, hI, []⟩ rfl _ _ rfl ?_)
  · refine Coe.trans (Coe.empCell (j := 0) 5 (zbox _ _ 3 rfl) rfl) ?_
    rw [tl_first]
    exact Coe.kp
  · intro k g h3 h4 h5 h7 h8
    dsimp only at h3 h4 h5 h7 h8 ⊢
    clear hlp hc
    by_cases ht : t = 2 ∨ t = 6
    · cases q with
      | true =>
        rw [if_pos ⟨ht, rfl⟩]
        cases aok with
        | true =>
          have hTl : ∀ N, ASpec Tryz.prog 67 [vs ad, vb true, .ptr (H.length + 3) 0 0, .ptr (H.length + 1) 0 0, .ptr (H.length + 2) 0 0] (H ++ tlM H.length s name t g A N) (fun o H' => o = .ret (.tup []) ∧ H' = H ++ tlM H.length s name t (g + 1) (A ++ tlN name t [ad]) N) := fun N => tell1_ok s name t g A N ad (by omega) H
          rw [if_pos rfl]
          generalize A ++ tlN name t [ad] = A' at *
          by_cases h2 : t = 2
          · subst h2
            refine wk (wA h3 (wA h4 (wA h5 (wA h7 (wA h8 wT))))) (wA hsm (wA hap (wA hTl (wA ((OwnM.mk (id := 3))) (wA DrM.mk wT))))) ?_
            try simp only [bodyQ, go_sem, Nat.reduceBEq, Nat.reduceLT, Nat.reduceEqDiff, reduceIte, Nat.reduceAdd, Nat.reduceMul, Nat.reduceSub, Nat.reduceLeDiff, Int.reduceToNat, Int.reducePow, Int.reduceLT, Int.reduceEq, Int.reduceBEq, Int.reduceNeg, Nat.reducePow, List.reduceReplicate, Int.reduceLE]
            exact fin_tl rfl
          · have h6 : t = 6 := by omega
            subst h6
            refine wk (wA h3 (wA h4 (wA h5 (wA h7 (wA h8 wT))))) (wA hsm (wA hap (wA hTl (wA ((OwnM.mk (id := 3))) (wA DrM.mk wT))))) ?_
            try simp only [bodyQ, go_sem, Nat.reduceBEq, Nat.reduceLT, Nat.reduceEqDiff, reduceIte, Nat.reduceAdd, Nat.reduceMul, Nat.reduceSub, Nat.reduceLeDiff, Int.reduceToNat, Int.reducePow, Int.reduceLT, Int.reduceEq, Int.reduceBEq, Int.reduceNeg, Nat.reducePow, List.reduceReplicate, Int.reduceLE]
            exact fin_tl rfl
        | false =>
          have hTl := fun N => tell1_no s name t g A N ad H
          rw [if_neg (by simp), show tlN name t [] = [] from rfl, List.append_nil]
          by_cases h2 : t = 2
          · subst h2
            refine wk (wA h3 (wA h4 (wA h5 (wA h7 (wA h8 wT))))) (wA hsm (wA hap (wA hTl (wA ((OwnM.mk (id := 3))) (wA DrM.mk wT))))) ?_
            try simp only [bodyQ, go_sem, Nat.reduceBEq, Nat.reduceLT, Nat.reduceEqDiff, reduceIte, Nat.reduceAdd, Nat.reduceMul, Nat.reduceSub, Nat.reduceLeDiff, Int.reduceToNat, Int.reducePow, Int.reduceLT, Int.reduceEq, Int.reduceBEq, Int.reduceNeg, Nat.reducePow, List.reduceReplicate, Int.reduceLE]
            exact fin_tl rfl
          · have h6 : t = 6 := by omega
            subst h6
            refine wk (wA h3 (wA h4 (wA h5 (wA h7 (wA h8 wT))))) (wA hsm (wA hap (wA hTl (wA ((OwnM.mk (id := 3))) (wA DrM.mk wT))))) ?_
            try simp only [bodyQ, go_sem, Nat.reduceBEq, Nat.reduceLT, Nat.reduceEqDiff, reduceIte, Nat.reduceAdd, Nat.reduceMul, Nat.reduceSub, Nat.reduceLeDiff, Int.reduceToNat, Int.reducePow, Int.reduceLT, Int.reduceEq, Int.reduceBEq, Int.reduceNeg, Nat.reducePow, List.reduceReplicate, Int.reduceLE]
            exact fin_tl rfl
      | false =>
        rw [if_neg (by simp), show tlN name t [] = [] from rfl, List.append_nil]
        by_cases h2 : t = 2
        · subst h2
          refine wk (wA h3 (wA h4 (wA h5 (wA h7 (wA h8 wT))))) (wA hsm (wA ((OwnM.mk (id := 3))) (wA DrM.mk wT))) ?_
          try simp only [bodyQ, go_sem, Nat.reduceBEq, Nat.reduceLT, Nat.reduceEqDiff, reduceIte, Nat.reduceAdd, Nat.reduceMul, Nat.reduceSub, Nat.reduceLeDiff, Int.reduceToNat, Int.reducePow, Int.reduceLT, Int.reduceEq, Int.reduceBEq, Int.reduceNeg, Nat.reducePow, List.reduceReplicate, Int.reduceLE]
          exact fin_tl rfl
        · have h6 : t = 6 := by omega
          subst h6
          refine wk (wA h3 (wA h4 (wA h5 (wA h7 (wA h8 wT))))) (wA hsm (wA ((OwnM.mk (id := 3))) (wA DrM.mk wT))) ?_
          try simp only [bodyQ, go_sem, Nat.reduceBEq, Nat.reduceLT, Nat.reduceEqDiff, reduceIte, Nat.reduceAdd, Nat.reduceMul, Nat.reduceSub, Nat.reduceLeDiff, Int.reduceToNat, Int.reducePow, Int.reduceLT, Int.reduceEq, Int.reduceBEq, Int.reduceNeg, Nat.reducePow, List.reduceReplicate, Int.reduceLE]
          exact fin_tl rfl
    · rw [if_neg (fun h => ht h.1), show tlN name t [] = [] from rfl, List.append_nil]
      have h2 : ¬ t = 2 := fun h => ht (.inl h)
      have h6 : ¬ t = 6 := fun h => ht (.inr h)
      refine wk (wA h3 (wA h4 (wA h5 (wA h7 (wA h8 (wA h2 (wA h6 wT))))))) (wA ((OwnM.mk (id := 3))) (wA DrM.mk wT)) ?_
      try simp only [bodyQ, go_sem, Nat.reduceBEq, Nat.reduceLT, Nat.reduceEqDiff, reduceIte, Nat.reduceAdd, Nat.reduceMul, Nat.reduceSub, Nat.reduceLeDiff, Int.reduceToNat, Int.reducePow, Int.reduceLT, Int.reduceEq, Int.reduceBEq, Int.reduceNeg, Nat.reducePow, List.reduceReplicate, Int.reduceLE]
      exact fin_tl rfl

end Go.Proofs.YtnlmdeeadldgmaaGreatDoor.VL

/- Layer 18: the fixed fact. -/
-- STEPWISE
-- WK
set_option linter.unusedVariables false
set_option linter.unusedSimpArgs false
set_option maxRecDepth 10000
namespace Go.Proofs.YtnlmdeeadldgmaaGreatDoor.VL
open Go Go.RowKit Go.Lib

def sv18 : Sv := ⟨[104, 116, 116, 112], [116, 99, 112], 80, 0, 7, true⟩
def b18 : List UInt8 := [4, 104, 116, 116, 112, 3, 116, 99, 112, 80, 0, 7, 1]
def d18 : List UInt8 := [4, 98, 101, 108, 108, 0]
def s18 : Sc := ⟨[⟨2, ⟨1, 0, [⟨0, 1, [117, 112]⟩, ⟨1, 2, [97, 98, 99, 100]⟩, ⟨3, 3, b18⟩]⟩⟩], [2], d18⟩
theorem s18_in : ScIn s18 := ⟨by decide, fun x hx => by
  have hx : x = ⟨2, ⟨1, 0, [⟨0, 1, [117, 112]⟩, ⟨1, 2, [97, 98, 99, 100]⟩, ⟨3, 3, b18⟩]⟩⟩ := by simpa [s18] using hx
  subst hx
  exact ⟨by decide, by decide⟩, by decide, by decide⟩

set_option maxHeartbeats 4000000 in
theorem alive18_spec (H : List Box) : ASpec Tryz.prog 13 [] H (Gives (vb true) H) := by
  have h1 : ∀ H, ASpec Tryz.prog 49 [.agg [vs [104, 116, 116, 112], vs [116, 99, 112], vi 80, vi 0, vi 7, vb true]] H (Gives (.tup [vs b18, vi 0]) H) := fun H => by
    have e : encS sv18 = (b18, 0) := by decide +kernel
    have := svRefEncode_spec sv18 (by decide) (by decide) H
    rw [e] at this
    exact this
  have h2 : ∀ H, ASpec Tryz.prog 26 [.agg [.lst 4 [[vi 2, vi 1, vi 0, .lst 3 [[vi 0, vi 1, vs [117, 112]], [vi 1, vi 2, vs [97, 98, 99, 100]], [vi 3, vi 3, vs b18]]]], .lst 1 [[vi 2]], vs [4, 98, 101, 108, 108, 0]], vs [5, 95, 104, 116, 116, 112, 4, 95, 84, 67, 80, 4, 98, 101, 108, 108, 0], vi 33] H (Gives (.lst 5 [[vs [5, 95, 104, 116, 116, 112, 4, 95, 84, 67, 80, 4, 98, 101, 108, 108, 0], vi 33, vi 1, vi 5, vs [0, 0, 0, 7, 0, 80, 2, 110, 50, 4, 98, 101, 108, 108, 0]]]) H) := fun H => by
    have e : tellN s18 [5, 95, 104, 116, 116, 112, 4, 95, 84, 67, 80, 4, 98, 101, 108, 108, 0] 33 = [⟨[5, 95, 104, 116, 116, 112, 4, 95, 84, 67, 80, 4, 98, 101, 108, 108, 0], 33, 1, 5, [0, 0, 0, 7, 0, 80, 2, 110, 50, 4, 98, 101, 108, 108, 0]⟩] := by decide +kernel
    have := tell_spec s18 [5, 95, 104, 116, 116, 112, 4, 95, 84, 67, 80, 4, 98, 101, 108, 108, 0] 33 s18_in (by decide) H
    rw [e] at this
    exact this
  have h3 : ∀ H, ASpec Tryz.prog 26 [.agg [.lst 4 [[vi 2, vi 1, vi 0, .lst 3 [[vi 0, vi 1, vs [117, 112]], [vi 1, vi 2, vs [97, 98, 99, 100]], [vi 3, vi 3, vs b18]]]], .lst 1 [[vi 2]], vs [4, 98, 101, 108, 108, 0]], vs [2, 110, 50, 4, 98, 101, 108, 108, 0], vi 1] H (Gives (.lst 5 [[vs [2, 110, 50, 4, 98, 101, 108, 108, 0], vi 1, vi 1, vi 5, vs [97, 98, 99, 100]]]) H) := fun H => by
    have e : tellN s18 [2, 110, 50, 4, 98, 101, 108, 108, 0] 1 = [⟨[2, 110, 50, 4, 98, 101, 108, 108, 0], 1, 1, 5, [97, 98, 99, 100]⟩] := by decide +kernel
    have := tell_spec s18 [2, 110, 50, 4, 98, 101, 108, 108, 0] 1 s18_in (by decide) H
    rw [e] at this
    exact this
  have h4 : ∀ H, ASpec Tryz.prog 23 [.agg [.lst 4 [[vi 2, vi 1, vi 0, .lst 3 [[vi 0, vi 1, vs [117, 112]], [vi 1, vi 2, vs [97, 98, 99, 100]], [vi 3, vi 3, vs b18]]]], .lst 1 [[vi 2]], vs [4, 98, 101, 108, 108, 0]], vs [2, 110, 49, 4, 98, 101, 108, 108, 0]] H (Gives (vb false) H) := fun H => by
    have e : existsN s18 [2, 110, 49, 4, 98, 101, 108, 108, 0] = false := by decide +kernel
    have := exists_spec s18 [2, 110, 49, 4, 98, 101, 108, 108, 0] s18_in (by decide) H
    rw [e] at this
    exact this
  have h5 : ∀ H, ASpec Tryz.prog 21 [.agg [.lst 4 [[vi 2, vi 1, vi 0, .lst 3 [[vi 0, vi 1, vs [117, 112]], [vi 1, vi 2, vs [97, 98, 99, 100]], [vi 3, vi 3, vs b18]]]], .lst 1 [[vi 2]], vs [4, 98, 101, 108, 108, 0]]] H (Gives (.lst 1 [[vi 2]]) H) := fun H => by
    have e : numsN s18 = [2] := by decide +kernel
    have := counts_spec s18 s18_in H
    rw [e] at this
    exact this
  have h6 : ∀ H, ASpec Tryz.prog 20 [.lst 1 [[vi 2]], .lst 1 [[vi 2]]] H (Gives (vb true) H) := fun H => ints6_spec [2] [2] (by decide) (by decide) H
  generalize b18 = B at *
  refine ASpec.enter Tryz.func13 rfl (fun a w => Tryz.call13 a w) Tryz.ntmps13 Tryz.results13 fun base w β hI => ?_
  refine wk wT (wA h1 (wA h2 (wA h3 (wA h4 (wA h5 (wA h6 (wA DrM.mk wT))))))) ?_
  refine wkEnd wT ?_
  exact Fin.cut (.v _) ⟨rfl, rfl⟩

end Go.Proofs.YtnlmdeeadldgmaaGreatDoor.VL

/- The value logic, part 12: what a walk rewrites by. -/
import Derived.Test.YtnlmdeeadldgmaaGreatDoorZVLFn
import Derived.Test.YtnlmdeeadldgmaaGreatDoorZG13
import Derived.Attr
set_option linter.unusedVariables false
set_option linter.unusedSimpArgs false
namespace Go.Proofs.YtnlmdeeadldgmaaGreatDoor.VL
open Go Go.RowKit Go.Lib

attribute [go_sem] aggEq aggEqB eqVals aclear aops aone aop aopU unlit isConst constParts relit isBytes litConv aeval lk put cst zcell dstOk ayield aflag undef withH nilOk alen amin amax abuiltin aextract afieldAddr afield aindexAddr aindex aload aloadAt astoreAt newBox abuild abuildSlice parts afill fieldPlaces splice chunk aslice abnd aconv aconvH asrc aappend aappend' aappendT aappendZ acap noBox shareB acopy amake acaps live AV.cells AV.one qops qone number
attribute [go_sem] glb gvals amkI plainVals atypeA aisNil plainAV eqlNil
attribute [go_sem] List.size_toArray cond_true cond_false false_and and_false Nat.lt_irrefl List.set_nil
attribute [go_sem] aslice3 selfOk selfBox List.tail_cons unbs isBs aappendB abslice aunsafeString
attribute [go_sem] alookup Instr.findNow Instr.sameNow nilIf isSl isInt branch_tt branch_ff branch_tf branch_ft askip qskip
attribute [go_sem] abin aint astr aun apick Value.oneCell' notInt ares1 aresL ares

theorem AWP.region_k {P : Program} {E : Ent} {Q : AExit → ASt → Prop} {σ : ASt} {id : Nat} {l : List Oper} (h : ∀ Q' : AExit → ASt → Prop, (∀ e σ, Q e σ → Q' e σ) → aops P E l.toArray Q' l σ) : AWP P E (.region id l.toArray false) Q σ :=
  AWP.region (by simpa using h Q fun _ _ h => h)
theorem AWP.draw_k {P : Program} {E : Ent} {Q : AExit → ASt → Prop} {id : Nat} {os : List Oper} {l : List (Nat × AV)} {H : List Box} (hm : P.follows .mixedOrders = true) (hB : Region.lexB .any os.toArray = true)
    (h : ∀ K : List (Nat × AV) → Prop, (∀ l, Q .normal ⟨l, H⟩ → K l) → qops P E os.toArray H K os l) : AWP P E (.region id os.toArray true) Q ⟨l, H⟩ :=
  AWP.draw hm hB (by simpa using h _ fun _ h => h)

attribute [go_sem] beq_self_eq_true true_and and_true Option.bind Option.map decide_true decide_false decide_eq_true_eq not_true not_false_eq_true Bool.false_eq_true false_implies implies_true true_implies forall_const Option.some.injEq Nat.add_zero Nat.zero_add ne_eq Bool.not_true Bool.not_false Bool.not_eq_true List.map_cons List.map_nil List.append_nil List.all_cons List.all_nil Bool.and_true Bool.and_self Option.isSome_some Int.toNat_natCast List.take_succ_cons List.take_zero List.drop_succ_cons List.drop_zero exists_eq_left' Nat.mul_one Nat.one_mul Nat.zero_mul Int.zero_add Int.add_zero Int.tdiv_eq_ediv_of_nonneg Int.tmod_eq_emod_of_nonneg Int.fdiv_eq_ediv_of_nonneg Nat.min_eq_left IntKind.bits IntKind.signed gt_iff_lt false_or or_false or_true true_or List.set_cons_zero Option.getD Int.cast_ofNat_Int List.take_length

/-! ### Operation by operation -/
theorem aops.step {P : Program} {E : Ent} {ops : Array Oper} {Q : AExit → ASt → Prop} {o : Oper} {rest : List Oper} {σ : ASt}
    (h : ∀ T : ASt → Prop, (∀ σ, aops P E ops Q rest σ → T σ) → match o.guard with
      | none => aone P E Q o T σ
      | some (j, want) => match ayield ops σ.tmps j with
        | some (some t) => Branch t want σ (aone P E Q o T) (askip E o T)
        | some none => askip E o T σ
        | none => False) : aops P E ops Q (o :: rest) σ := by
  simp only [aops]
  exact h _ fun _ h => h
theorem aops.nil {P : Program} {E : Ent} {ops : Array Oper} {Q : AExit → ASt → Prop} {σ : ASt} (h : Q .normal σ) : aops P E ops Q [] σ := h
theorem qops.step {P : Program} {E : Ent} {ops : Array Oper} {H : List Box} {Q : List (Nat × AV) → Prop} {o : Oper} {rest : List Oper} {l : List (Nat × AV)}
    (h : ∀ T : List (Nat × AV) → Prop, (∀ l, qops P E ops H Q rest l → T l) → match o.guard with
      | none => qone P E H o T l
      | some (j, want) => match ayield ops l j with
        | some (some t) => Branch t want l (qone P E H o T) (qskip E o T)
        | some none => qskip E o T l
        | none => False) : qops P E ops H Q (o :: rest) l := by
  simp only [qops]
  exact h _ fun _ h => h
theorem qops.nil {P : Program} {E : Ent} {ops : Array Oper} {H : List Box} {Q : List (Nat × AV) → Prop} {l : List (Nat × AV)} (h : Q l) : qops P E ops H Q [] l := h

/-! ### Numbers -/
@[go_sem] theorem wi64 {x : Int} (h0 : -9223372036854775808 ≤ x) (h1 : x ≤ 9223372036854775807) : IntKind.i64.wrap x = x := by
  simp [IntKind.wrap, IntKind.bits, IntKind.signed]; omega
@[go_sem] theorem wu8 {x : Int} (h0 : 0 ≤ x) (h1 : x ≤ 255) : IntKind.u8.wrap x = x := by
  simp [IntKind.wrap, IntKind.bits, IntKind.signed]; omega
@[go_sem] theorem wu32 {x : Int} (h0 : 0 ≤ x) (h1 : x ≤ 4294967295) : IntKind.u32.wrap x = x := by
  simp [IntKind.wrap, IntKind.bits, IntKind.signed]; omega
@[go_sem] theorem wu64 {x : Int} (h0 : 0 ≤ x) (h1 : x ≤ 18446744073709551615) : IntKind.u64.wrap x = x := by
  simp [IntKind.wrap, IntKind.bits, IntKind.signed]; omega
theorem wi64_idem (x : Int) : IntKind.i64.wrap (IntKind.i64.wrap x) = IntKind.i64.wrap x := by
  simp [IntKind.wrap, IntKind.bits, IntKind.signed]; omega

theorem ofInt_toNat {n : Nat} {a : Int} (h0 : 0 ≤ a) (h1 : a < (2 ^ n : Nat)) : (BitVec.ofInt n a).toNat = a.toNat := by
  rw [BitVec.toNat_ofInt]
  congr 1
  exact Int.emod_eq_of_lt h0 h1
theorem ior_u64 {a b : Int} (ha : 0 ≤ a) (hb : 0 ≤ b) (ha' : a ≤ 18446744073709551615) (hb' : b ≤ 18446744073709551615) : ior .u64 a b = ((a.toNat ||| b.toNat : Nat) : Int) := by
  show IntKind.u64.wrap ((BitVec.ofInt 64 a ||| BitVec.ofInt 64 b).toNat : Int) = _
  have h := (BitVec.ofInt 64 a ||| BitVec.ofInt 64 b).isLt
  rw [wu64 (by omega) (by omega), BitVec.toNat_or, ofInt_toNat ha (by omega), ofInt_toNat hb (by omega)]
theorem iand_u64 {a b : Int} (ha : 0 ≤ a) (hb : 0 ≤ b) (ha' : a ≤ 18446744073709551615) (hb' : b ≤ 18446744073709551615) : iand .u64 a b = ((a.toNat &&& b.toNat : Nat) : Int) := by
  show IntKind.u64.wrap ((BitVec.ofInt 64 a &&& BitVec.ofInt 64 b).toNat : Int) = _
  have h := (BitVec.ofInt 64 a &&& BitVec.ofInt 64 b).isLt
  rw [wu64 (by omega) (by omega), BitVec.toNat_and, ofInt_toNat ha (by omega), ofInt_toNat hb (by omega)]
theorem ior_u8 {a b : Int} (ha : 0 ≤ a) (hb : 0 ≤ b) (ha' : a ≤ 255) (hb' : b ≤ 255) : ior .u8 a b = ((a.toNat ||| b.toNat : Nat) : Int) := by
  show IntKind.u8.wrap ((BitVec.ofInt 8 a ||| BitVec.ofInt 8 b).toNat : Int) = _
  have h := (BitVec.ofInt 8 a ||| BitVec.ofInt 8 b).isLt
  rw [wu8 (by omega) (by omega), BitVec.toNat_or, ofInt_toNat ha (by omega), ofInt_toNat hb (by omega)]
theorem iand_u8 {a b : Int} (ha : 0 ≤ a) (hb : 0 ≤ b) (ha' : a ≤ 255) (hb' : b ≤ 255) : iand .u8 a b = ((a.toNat &&& b.toNat : Nat) : Int) := by
  show IntKind.u8.wrap ((BitVec.ofInt 8 a &&& BitVec.ofInt 8 b).toNat : Int) = _
  have h := (BitVec.ofInt 8 a &&& BitVec.ofInt 8 b).isLt
  rw [wu8 (by omega) (by omega), BitVec.toNat_and, ofInt_toNat ha (by omega), ofInt_toNat hb (by omega)]
theorem iand_i64 {a b : Int} (ha : 0 ≤ a) (hb : 0 ≤ b) (ha' : a ≤ 9223372036854775807) (hb' : b ≤ 9223372036854775807) : iand .i64 a b = ((a.toNat &&& b.toNat : Nat) : Int) := by
  show IntKind.i64.wrap ((BitVec.ofInt 64 a &&& BitVec.ofInt 64 b).toNat : Int) = _
  have h := Nat.and_le_left (n := a.toNat) (m := b.toNat)
  have e : (BitVec.ofInt 64 a &&& BitVec.ofInt 64 b).toNat = a.toNat &&& b.toNat := by rw [BitVec.toNat_and, ofInt_toNat ha (by omega), ofInt_toNat hb (by omega)]
  rw [e, wi64 (by omega) (by omega)]
theorem ior_i64 {a b : Int} (ha : 0 ≤ a) (hb : 0 ≤ b) (ha' : a ≤ 9223372036854775807) (hb' : b ≤ 9223372036854775807) : ior .i64 a b = ((a.toNat ||| b.toNat : Nat) : Int) := by
  show IntKind.i64.wrap ((BitVec.ofInt 64 a ||| BitVec.ofInt 64 b).toNat : Int) = _
  have h : a.toNat ||| b.toNat < 2 ^ 63 := Nat.or_lt_two_pow (by omega) (by omega)
  have e : (BitVec.ofInt 64 a ||| BitVec.ofInt 64 b).toNat = a.toNat ||| b.toNat := by rw [BitVec.toNat_or, ofInt_toNat ha (by omega), ofInt_toNat hb (by omega)]
  rw [e, wi64 (by omega) (by omega)]

@[go_sem] theorem bytesG_length (bs : List UInt8) : (bytesG bs).length = bs.length := by simp [bytesG]
@[go_sem] theorem bytesG_get (bs : List UInt8) (i : Nat) : (bytesG bs)[i]? = (bs[i]?).map fun b => [AV.v (.int .u8 b.toNat)] := by simp [bytesG]
@[go_sem] theorem bytesG_take (bs : List UInt8) (i : Nat) : (bytesG bs).take i = bytesG (bs.take i) := by simp [bytesG, List.map_take]
@[go_sem] theorem bytesG_drop (bs : List UInt8) (i : Nat) : (bytesG bs).drop i = bytesG (bs.drop i) := by simp [bytesG, List.map_drop]
@[go_sem] theorem bytesOf_G (bs : List UInt8) : bytesOf (bytesG bs) = some bs := bytesOf_bytesG bs
/-- Cells of bytes. -/
def bytesC (bs : List UInt8) : List AV := bs.map fun b => .v (.int .u8 b.toNat)
@[go_sem] theorem flat_bytesG (bs : List UInt8) : flat (bytesG bs) = bytesC bs := by
  unfold flat bytesG bytesC
  induction bs with
  | nil => rfl
  | cons b r ih => simp only [List.map_cons, List.flatten_cons, ih]; rfl
@[go_sem] theorem bytesC_length (bs : List UInt8) : (bytesC bs).length = bs.length := by simp [bytesC]
@[go_sem] theorem bytesC_append (a b : List UInt8) : bytesC a ++ bytesC b = bytesC (a ++ b) := by simp [bytesC]
@[go_sem] theorem bytesC_drop (a : List UInt8) (n : Nat) : (bytesC a).drop n = bytesC (a.drop n) := by simp [bytesC, List.map_drop]
def zerosB (n : Nat) : List UInt8 := List.replicate n 0
@[go_sem] theorem zerosB_length (n : Nat) : (zerosB n).length = n := by simp [zerosB]
theorem bytesC_lt (bs : List UInt8) (j : Nat) (c : AV) (h : (bytesC bs)[j]? = some c) : Lt 0 c := by
  simp only [bytesC, List.getElem?_map] at h
  obtain ⟨b, _, rfl⟩ := Option.map_eq_some_iff.1 h
  exact .v _
@[go_sem] theorem flat_nil : flat ([] : List (List AV)) = [] := rfl
@[go_sem] theorem flat_cons (g : List AV) (r : List (List AV)) : flat (g :: r) = g ++ flat r := rfl
@[go_sem] theorem bytesC_snoc (a : List UInt8) (x : Int) (h0 : 0 ≤ x) (h1 : x ≤ 255) : bytesC a ++ [.v (.int .u8 x)] = bytesC (a ++ [UInt8.ofNat x.toNat]) := by
  have e : ((UInt8.ofNat x.toNat).toNat : Int) = x := by
    rw [UInt8.toNat_ofNat']
    omega
  simp only [bytesC, List.map_append, List.map_cons, List.map_nil, e]
theorem chunk_bytesC (bs : List UInt8) : ∀ n, n = bs.length → chunk 1 n (bytesC bs) = bytesG bs := by
  induction bs with
  | nil => intro n h; subst h; rfl
  | cons b r ih => intro n h; subst h; simp only [List.length_cons, chunk, bytesC, List.map_cons, List.take_succ_cons, List.take_zero, List.drop_succ_cons, List.drop_zero]; exact congrArg _ (ih r.length rfl)
@[go_sem] theorem strData (bs : List UInt8) : (⟨bs.toArray⟩ : ByteArray).data.toList = bs := rfl
@[go_sem] theorem strSize (bs : List UInt8) : (⟨bs.toArray⟩ : ByteArray).size = bs.length := by show bs.toArray.size = _; simp
theorem lt_bytes {n : Nat} (bs : List UInt8) : Lt n (.lst 1 (bytesG bs)) := .lst _ _ fun i j g c hi hj => by
  obtain ⟨b, _, rfl⟩ := bytes_get hi
  cases j with
  | zero => simp at hj; subst hj; exact .v _
  | succ j => simp at hj

@[go_sem] theorem ite_pos' {α : Sort _} {c : Prop} [Decidable c] {a b : α} (h : c) : (if c then a else b) = a := if_pos h
@[go_sem] theorem ite_neg' {α : Sort _} {c : Prop} [Decidable c] {a b : α} (h : ¬ c) : (if c then a else b) = b := if_neg h

theorem acall.det {P : Program} {base : Nat} {f : FuncId} {args : List AV} {H : List Box} {K : Out → List Box → Prop} {X : Out} {Y : List Box} (h : ASpec P f args H (fun o H' => o = X ∧ H' = Y)) (hK : K X Y) : acall P base f args H K :=
  h.use fun o H' ⟨e1, e2⟩ => by rw [e1, e2]; exact hK
theorem qcall.det {P : Program} {base : Nat} {f : FuncId} {args : List AV} {H : List Box} {K : AV → Prop} {r : AV} (h : ASpec P f args H (fun o H' => o = .ret r ∧ H' = H)) (hK : K r) :
    ∃ r, acall P base f args H (fun o H' => o = .ret r ∧ H' = H) ∧ K r := ⟨r, h base, hK⟩
theorem Fin.same {E : Ent} {r : AV} {K : AV → List Box → Prop} (h : K r E.H) : Fin E r E.H K := ⟨r, E.H, Shed.refl _ _ _, h⟩
theorem Fin.cut {E : Ent} {r : AV} {N : List Box} {K : AV → List Box → Prop} (hr : Lt 0 r) (h : K r E.H) : Fin E r (E.H ++ N) K := ⟨r, E.H, Shed.cut hr, h⟩
theorem Fin.own {E : Ent} {N : List Box} {i g n sz : Nat} {full : Bool} {bx : Box} {K : AV → List Box → Prop} (hb : N[i]? = some bx) (hg : bx.gen = g) (hc : ∀ (j : Nat) (c : AV), bx.cells[j]? = some c → Lt 0 c)
    (h : K (.sl E.H.length 0 0 n sz full) (E.H ++ [⟨bx.cells, bx.ro, 0, bx.grow⟩])) : Fin E (.sl (E.H.length + i) g 0 n sz full) (E.H ++ N) K :=
  ⟨_, _, Shed.own (b := E.H.length + i) (by rw [List.getElem?_append_right (by omega)]; simpa using hb) hg (by omega) hc, h⟩
theorem Fin.mono {E : Ent} {r : AV} {H : List Box} {K K' : AV → List Box → Prop} (h : Fin E r H K) (hK : ∀ r H, K r H → K' r H) : Fin E r H K' := let ⟨r', H', h1, h2⟩ := h; ⟨r', H', h1, hK _ _ h2⟩

/-! ### Boxes behind others -/
@[go_sem] theorem getH (H N : List Box) (i : Nat) : (H ++ N)[H.length + i]? = N[i]? := by rw [List.getElem?_append_right (by omega)]; congr 1; omega
@[go_sem] theorem getH0 (H N : List Box) : (H ++ N)[H.length]? = N[0]? := by rw [List.getElem?_append_right (Nat.le_refl _), Nat.sub_self]
@[go_sem] theorem setH (H N : List Box) (i : Nat) (b : Box) : (H ++ N).set (H.length + i) b = H ++ N.set i b := by rw [List.set_append_right _ _ (by omega)]; congr 2; omega
@[go_sem] theorem setH0 (H N : List Box) (b : Box) : (H ++ N).set H.length b = H ++ N.set 0 b := by rw [List.set_append_right _ _ (Nat.le_refl _), Nat.sub_self]
@[go_sem] theorem appH (H N M : List Box) : H ++ N ++ M = H ++ (N ++ M) := List.append_assoc _ _ _
@[go_sem] theorem lenH (H N : List Box) : (H ++ N).length = H.length + N.length := List.length_append
attribute [go_sem] List.cons_append List.nil_append List.length_cons List.length_nil List.set_cons_zero List.set_cons_succ List.getElem?_cons_zero List.getElem?_cons_succ List.getElem?_toArray List.getElem?_nil

end Go.Proofs.YtnlmdeeadldgmaaGreatDoor.VL

/- The value logic, part 13: new rows that are only read from then on; rows handed on to be read. -/
set_option linter.unusedVariables false
set_option linter.unusedSimpArgs false
namespace Go.Proofs.YtnlmdeeadldgmaaGreatDoor.VL
open Go Go.RowKit Go.Lib

/-- The new box of a slice is forgotten: the slice is only read from now on. -/
theorem Shed.froz {E : Ent} {N : List Box} {b g off n sz : Nat} {full : Bool} {bx : Box} (hb : (E.H ++ N)[b]? = some bx) (hge : E.H.length ≤ b) (hg : bx.gen = g) (hfit : off + n * sz ≤ bx.cells.length)
    (hlt : ∀ m, Lt m (.lst sz (chunk sz n (bx.cells.drop off)))) : Shed E (.sl b g off n sz full) (E.H ++ N) (.lst sz (chunk sz n (bx.cells.drop off))) E.H := fun w β v hI hs h => by
  obtain ⟨h1, h2⟩ := freeze_inv hI hb hfit
  have hbl : b < (E.H ++ N).length := (List.getElem?_eq_some_iff.1 hb).1
  have hv := rep_view (bx := { bx with ro := max bx.ro (off + n * sz) }) h1 (List.getElem?_set_self hbl) hg (Nat.le_max_right _ _) (h.stp h2)
  have hs' := hs.trans h2
  rw [List.set_append_right _ _ hge] at h1 hs' hv
  obtain ⟨g1, g2, g3⟩ := cut_inv h1 hs' (fun i bx hi j c hj => E.inv.ltCells hi hj) (Nat.le_refl _)
  exact ⟨β, g1, g2, g3 _ _ (hlt _) hv⟩

theorem ASpec.shed {P : Program} {f : FuncId} {args : List AV} {H : List Box} {r r' : AV} {H1 H2 : List Box} (h : ASpec P f args H (fun o H' => o = .ret r ∧ H' = H1)) (hs : ∀ E : Ent, E.H = H → Shed E r H1 r' H2) : ASpec P f args H (fun o H' => o = .ret r' ∧ H' = H2) := fun base =>
  fun w β vs hI hr => ((h base) w β vs hI hr).mono fun e w' ⟨out, H', β', hK, k2, k3, k4⟩ => by
    obtain ⟨rfl, rfl⟩ := hK
    cases e with
    | returned v =>
      obtain ⟨β'', g1, g2, g3⟩ := hs ⟨base, 0, w, H, β, hI, []⟩ rfl w' β' v k3 k4 k2
      exact ⟨.ret r', _, β'', ⟨rfl, rfl⟩, g3, g1, g2⟩
    | panicked c => exact k2.elim
    | outgrown => exact k2.elim

theorem Shed.ro {E : Ent} {H : List Box} {r : AV} {b m : Nat} {bx : Box} (hb : H[b]? = some bx) (hm : m ≤ bx.cells.length) : Shed E r H r (H.set b ⟨bx.cells, max bx.ro m, bx.gen, bx.grow⟩) := fun w β v hI hs h => by
  obtain ⟨h1, h2⟩ := freeze_inv hI hb hm
  exact ⟨β, h1, hs.trans h2, h.stp h2⟩

/-- Rows of cells; simp doesn't look behind the name. -/
def view (sz n : Nat) (cs : List AV) : List (List AV) := chunk sz n cs
section
variable {P : Program} {base : Nat} {f : FuncId} {post : List AV} {H : List Box} {K : Out → List Box → Prop}
theorem acall.fz0 {b g off n sz : Nat} {full : Bool} (h : match H[b]? with
      | some bx => (bx.gen = g ∧ off + n * sz ≤ bx.cells.length) ∧ acall P base f (.lst sz (view sz n (bx.cells.drop off)) :: post) (H.set b ⟨bx.cells, max bx.ro (off + n * sz), bx.gen, bx.grow⟩) K
      | none => False) : acall P base f (.sl b g off n sz full :: post) H K := by
  split at h
  · rename_i bx hb
    exact acall.freeze (pre := []) hb h.1.1 h.1.2 h.2
  · exact h.elim
theorem acall.fz1 {x : AV} {b g off n sz : Nat} {full : Bool} (h : match H[b]? with
      | some bx => (bx.gen = g ∧ off + n * sz ≤ bx.cells.length) ∧ acall P base f (x :: .lst sz (view sz n (bx.cells.drop off)) :: post) (H.set b ⟨bx.cells, max bx.ro (off + n * sz), bx.gen, bx.grow⟩) K
      | none => False) : acall P base f (x :: .sl b g off n sz full :: post) H K := by
  split at h
  · rename_i bx hb
    exact acall.freeze (pre := [x]) hb h.1.1 h.1.2 h.2
  · exact h.elim
theorem acall.em0 (h : acall P base f (.lst 1 (bytesG []) :: post) H K) : acall P base f (.emp :: post) H K := acall.empty (pre := []) 1 h
theorem acall.em1 {x : AV} (h : acall P base f (x :: .lst 1 (bytesG []) :: post) H K) : acall P base f (x :: .emp :: post) H K := acall.empty (pre := [x]) 1 h
variable {K1 : AV → Out → List Box → Prop} {K2 : AV → Prop}
theorem qcall.em0 (h : ∃ r, acall P base f (.lst 1 (bytesG []) :: post) H (K1 r) ∧ K2 r) : ∃ r, acall P base f (.emp :: post) H (K1 r) ∧ K2 r := let ⟨r, h1, h2⟩ := h; ⟨r, acall.em0 h1, h2⟩
theorem qcall.em1 {x : AV} (h : ∃ r, acall P base f (x :: .lst 1 (bytesG []) :: post) H (K1 r) ∧ K2 r) : ∃ r, acall P base f (x :: .emp :: post) H (K1 r) ∧ K2 r := let ⟨r, h1, h2⟩ := h; ⟨r, acall.em1 h1, h2⟩
end

@[go_sem] theorem strEq (a b : List UInt8) : ((⟨a.toArray⟩ : ByteArray) = ⟨b.toArray⟩) = (a = b) := by
  apply propext
  constructor
  · intro h
    have := congrArg (fun x : ByteArray => x.data.toList) h
    simpa using this
  · rintro rfl; rfl
theorem viewB (bs : List UInt8) (n : Nat) (h : n = bs.length) : view 1 n (bytesC bs) = bytesG bs := chunk_bytesC bs n h
theorem chunkB (bs : List UInt8) (n : Nat) (h : n = bs.length) : chunk 1 n (bytesC bs) = bytesG bs := chunk_bytesC bs n h

end Go.Proofs.YtnlmdeeadldgmaaGreatDoor.VL

/- The value logic, part 15: arrays of bytes, rows of them. -/
set_option linter.unusedVariables false
set_option linter.unusedSimpArgs false
namespace Go.Proofs.YtnlmdeeadldgmaaGreatDoor.VL
open Go Go.RowKit Go.Lib

@[go_sem] theorem bytesC_take (a : List UInt8) (n : Nat) : (bytesC a).take n = bytesC (a.take n) := by simp [bytesC, List.map_take]
@[go_sem] theorem bytesOfC_C (bs : List UInt8) : bytesOfC (bytesC bs) = some bs := by
  unfold bytesC
  induction bs with
  | nil => rfl
  | cons b r ih =>
    have := b.toNat_lt
    rw [List.map_cons, bytesOfC, if_pos (by omega), ih]
    simp
@[go_sem] theorem bytesC_all (bs : List UInt8) : (bytesC bs).all AV.one = true := by
  unfold bytesC
  induction bs with
  | nil => rfl
  | cons b r ih => rw [List.map_cons, List.all_cons, ih]; rfl
/-- Bytes put in others' place. -/
def spl (t : List UInt8) (o : Nat) (x : List UInt8) : List UInt8 := t.take o ++ (x ++ t.drop (o + x.length))
theorem spl_length (t x : List UInt8) (o : Nat) (h : o + x.length ≤ t.length) : (spl t o x).length = t.length := by
  simp [spl]; omega
@[go_sem] theorem splice_bytes (t x : List UInt8) (o : Nat) (h : o + x.length ≤ t.length) : splice (bytesC t) o (bytesC x) = bytesC (spl t o x) := by
  apply List.ext_getElem?
  intro j
  rw [splice_get _ _ _ _ (by simpa [bytesC] using h)]
  simp only [bytesC, List.length_map, List.getElem?_map, spl]
  by_cases h1 : j < o
  · rw [if_neg (by omega), List.getElem?_append_left (by simp; omega), List.getElem?_take_of_lt h1]
  · by_cases h2 : j < o + x.length
    · rw [if_pos (by omega), List.getElem?_append_right (by simp; omega), List.getElem?_append_left (by simp; omega)]
      congr 2
      simp; omega
    · rw [if_neg (by omega), List.getElem?_append_right (by simp; omega), List.getElem?_append_right (by simp; omega), List.getElem?_drop]
      congr 2
      simp; omega
@[go_sem] theorem spl_all (t x : List UInt8) (h : x.length = t.length) : spl t 0 x = x := by
  rw [spl, List.take_zero, List.nil_append, Nat.zero_add, h, List.drop_length, List.append_nil]
theorem bytesC_getv (t : List UInt8) (i : Nat) : (bytesC t)[i]? = (t[i]?).map fun b => AV.v (.int .u8 b.toNat) := by simp [bytesC]

/-- Rows of byte arrays. -/
abbrev secG (l : List (List UInt8)) : List (List AV) := l.map bytesC
@[go_sem] theorem secG_length (l : List (List UInt8)) : (secG l).length = l.length := by simp [secG]
@[go_sem] theorem secG_get (l : List (List UInt8)) (i : Nat) : (secG l)[i]? = (l[i]?).map bytesC := by simp [secG]
@[go_sem] theorem flat_secG (l : List (List UInt8)) : flat (secG l) = bytesC l.flatten := by
  unfold flat bytesC secG
  induction l with
  | nil => rfl
  | cons a r ih => simp only [List.map_cons, List.flatten_cons, List.map_append]; rw [ih]; rfl
@[go_sem] theorem flat_zeros (n : Nat) (z : List UInt8) : flat (List.replicate n (bytesC z)) = bytesC (List.replicate n z).flatten := by
  have := flat_secG (List.replicate n z)
  rwa [secG, List.map_replicate] at this
@[go_sem] theorem bytesC_set (t : List UInt8) (i : Nat) (x : Int) (h0 : 0 ≤ x) (h1 : x ≤ 255) : (bytesC t).set i (AV.v (.int .u8 x)) = bytesC (t.set i (UInt8.ofNat x.toNat)) := by
  have e : ((UInt8.ofNat x.toNat).toNat : Int) = x := by
    rw [UInt8.toNat_ofNat']
    omega
  simp only [bytesC, List.map_set, e]
@[go_sem] theorem ofNat_self (c : UInt8) : UInt8.ofNat c.toNat = c := by simp
@[go_sem] theorem flat_zero1 (n : Nat) : flat (List.replicate n [AV.v (.int .u8 0)]) = bytesC (zerosB n) := by
  unfold zerosB
  induction n with
  | zero => rfl
  | succ n ih => rw [List.replicate_succ, flat_cons, ih]; rfl

def all64 (l : List (List UInt8)) : Prop := ∀ x ∈ l, x.length = 64
theorem all64_cons {a : List UInt8} {l : List (List UInt8)} (h : all64 (a :: l)) : a.length = 64 ∧ all64 l := ⟨h a (by simp), fun x hx => h x (by simp [hx])⟩
theorem flat64_length : ∀ (l : List (List UInt8)), all64 l → l.flatten.length = l.length * 64 := by
  intro l
  induction l with
  | nil => intro _; rfl
  | cons a r ih =>
    intro h
    obtain ⟨h1, h2⟩ := all64_cons h
    rw [List.flatten_cons, List.length_append, h1, ih h2, List.length_cons, Nat.add_mul]
    omega
theorem flat64_get : ∀ (l : List (List UInt8)) (i : Nat) (x : List UInt8), all64 l → l[i]? = some x → (l.flatten.drop (i * 64)).take 64 = x := by
  intro l
  induction l with
  | nil => intro i x _ h; simp at h
  | cons a r ih =>
    intro i x h hx
    obtain ⟨h1, h2⟩ := all64_cons h
    cases i with
    | zero =>
      simp at hx
      subst hx
      rw [Nat.zero_mul, List.drop_zero, List.flatten_cons, List.take_append_of_le_length (by omega), List.take_of_length_le (by omega)]
    | succ i =>
      rw [List.flatten_cons, show (i + 1) * 64 = a.length + i * 64 by omega, List.drop_append]
      rw [show a.drop (a.length + i * 64) = [] from List.drop_eq_nil_of_le (by omega), List.nil_append, Nat.add_sub_cancel_left]
      exact ih i x h2 (by simpa using hx)
theorem flat64_set : ∀ (l : List (List UInt8)) (i : Nat) (x : List UInt8), all64 l → i < l.length → x.length = 64 → spl l.flatten (i * 64) x = (l.set i x).flatten := by
  intro l
  induction l with
  | nil => intro i x _ h; simp at h
  | cons a r ih =>
    intro i x h hi hx
    obtain ⟨h1, h2⟩ := all64_cons h
    cases i with
    | zero =>
      rw [Nat.zero_mul, List.set_cons_zero, List.flatten_cons, List.flatten_cons, spl, List.take_zero, List.nil_append, Nat.zero_add, hx, ← h1, List.drop_left]
    | succ i =>
      have := ih i x h2 (by simpa using hi) hx
      rw [List.set_cons_succ, List.flatten_cons, List.flatten_cons, ← this, spl, spl, show (i + 1) * 64 = a.length + i * 64 by omega]
      rw [List.take_append, List.take_of_length_le (by omega), Nat.add_sub_cancel_left, List.append_assoc, List.drop_append, show a.length + i * 64 + x.length - a.length = i * 64 + x.length by omega,
        show a.drop (a.length + i * 64 + x.length) = [] from List.drop_eq_nil_of_le (by omega), List.nil_append]
theorem all64_set {l : List (List UInt8)} (h : all64 l) (i : Nat) {x : List UInt8} (hx : x.length = 64) : all64 (l.set i x) := fun y hy => by
  rcases List.mem_or_eq_of_mem_set hy with h1 | h1
  · exact h y h1
  · rw [h1]; exact hx
theorem chunk64 : ∀ (l : List (List UInt8)), all64 l → chunk 64 l.length (bytesC l.flatten) = secG l := by
  intro l
  induction l with
  | nil => intro _; rfl
  | cons a r ih =>
    intro h
    obtain ⟨h1, h2⟩ := all64_cons h
    rw [List.length_cons, chunk, bytesC_take, bytesC_drop, List.flatten_cons, List.take_append_of_le_length (by omega), List.take_of_length_le (by omega), ← h1, List.drop_left, h1, ih h2]
    rfl
theorem lt_sec {n : Nat} (l : List (List UInt8)) : Lt n (.lst 64 (secG l)) := .lst _ _ fun i j g c hi hj => by
  simp only [secG, List.getElem?_map] at hi
  obtain ⟨x, _, rfl⟩ := Option.map_eq_some_iff.1 hi
  exact (bytesC_lt x j c hj).mono (Nat.zero_le _)

/-- Values with a row of one's own among them, that is only read from now on. -/
theorem Fin.froz {E : Ent} {N : List Box} {r r' : AV} {b g n : Nat} {full : Bool} {bx : Box} {L : List (List UInt8)} {K : AV → List Box → Prop} (hb : (E.H ++ N)[b]? = some bx) (hge : E.H.length ≤ b) (hg : bx.gen = g) (hc : bx.cells = bytesC L.flatten) (hn : n = L.length) (h64 : all64 L)
    (hsw : ∀ (w : World) (H : List Box) (β : Pl) (v : Value), (∀ x, Rep w H β (.sl b g 0 n 64 full) x → Rep w H β (.lst 64 (secG L)) x) → Rep w H β r v → Rep w H β r' v) (hlt : Lt 0 r') (h : K r' E.H) : Fin E r (E.H ++ N) K :=
  ⟨r', E.H, fun w β v hI hs hr => by
    have hfl := flat64_length L h64
    have hfit : 0 + n * 64 ≤ bx.cells.length := by rw [hc, bytesC_length, hfl, hn]; omega
    obtain ⟨h1, h2⟩ := freeze_inv hI hb hfit
    have hbl : b < (E.H ++ N).length := (List.getElem?_eq_some_iff.1 hb).1
    have hr' := hsw w _ β v (fun x hx => by
      have hv : Rep w _ β (.lst 64 (chunk 64 n (bx.cells.drop 0))) x := rep_view (bx := { bx with ro := max bx.ro (0 + n * 64) }) h1 (List.getElem?_set_self hbl) hg (Nat.le_max_right _ _) hx
      have hcell : chunk 64 n (bx.cells.drop 0) = secG L := by rw [List.drop_zero, hc, hn, chunk64 L h64]
      rwa [hcell] at hv) (hr.stp h2)
    have hs' := hs.trans h2
    rw [List.set_append_right _ _ hge] at h1 hs' hr'
    obtain ⟨g1, g2, g3⟩ := cut_inv h1 hs' (fun i bx hi j c hj => E.inv.ltCells hi hj) (Nat.le_refl _)
    exact ⟨β, g1, g2, g3 _ _ (hlt.mono (Nat.zero_le _)) hr'⟩, h⟩
theorem rep_agg_sw {w : World} {H : List Box} {β : Pl} {a a' : AV} {r : List AV} {v : Value} (h : ∀ x, Rep w H β a x → Rep w H β a' x) (hr : Rep w H β (.agg (a :: r)) v) : Rep w H β (.agg (a' :: r)) v := by
  cases hr with
  | agg cs vs hl hh =>
    refine .agg _ vs (by simpa using hl) fun i c x hc hx => ?_
    cases i with
    | zero => simp at hc; subst hc; exact h _ (hh 0 _ x rfl hx)
    | succ i => exact hh (i + 1) c x (by simpa using hc) hx
theorem rep_tup_sw {w : World} {H : List Box} {β : Pl} {a a' : AV} {r : List AV} {v : Value} (h : ∀ x, Rep w H β a x → Rep w H β a' x) (hr : Rep w H β (.tup (a :: r)) v) : Rep w H β (.tup (a' :: r)) v := by
  cases hr with
  | tup cs vs hl hh =>
    refine .tup _ vs (by simpa using hl) fun i c x hc hx => ?_
    cases i with
    | zero => simp at hc; subst hc; exact h _ (hh 0 _ x rfl hx)
    | succ i => exact hh (i + 1) c x (by simpa using hc) hx
theorem Lt.cons_agg {n : Nat} {a : AV} {r : List AV} (h : Lt n a) (hr : Lt n (.agg r)) : Lt n (.agg (a :: r)) := .agg _ fun i c hc => by
  cases i with
  | zero => simp at hc; subst hc; exact h
  | succ i => cases hr with | agg _ hh => exact hh i c (by simpa using hc)
theorem Lt.cons_tup {n : Nat} {a : AV} {r : List AV} (h : Lt n a) (hr : Lt n (.tup r)) : Lt n (.tup (a :: r)) := .tup _ fun i c hc => by
  cases i with
  | zero => simp at hc; subst hc; exact h
  | succ i => cases hr with | tup _ hh => exact hh i c (by simpa using hc)
theorem Lt.nil_agg {n : Nat} : Lt n (.agg []) := .agg _ fun i c hc => by simp at hc
theorem Lt.nil_tup {n : Nat} : Lt n (.tup []) := .tup _ fun i c hc => by simp at hc
theorem lt_bytesC {n : Nat} (bs : List UInt8) : Lt n (.agg (bytesC bs)) := .agg _ fun i c hc => (bytesC_lt bs i c hc).mono (Nat.zero_le _)

end Go.Proofs.YtnlmdeeadldgmaaGreatDoor.VL

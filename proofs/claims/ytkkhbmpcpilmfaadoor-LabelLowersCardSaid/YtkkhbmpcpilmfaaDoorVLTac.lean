/- The value logic, part 12: what a walk rewrites by. -/
import Derived.Test.YtkkhbmpcpilmfaaDoorVLFn
import Derived.Test.YtkkhbmpcpilmfaaDoorVLOrd
import Derived.Attr
set_option linter.unusedVariables false
set_option linter.unusedSimpArgs false
namespace Go.Proofs.YtkkhbmpcpilmfaaDoor.VL
open Go Go.RowKit Go.Lib

attribute [go_sem] aggEq aggEqB eqVals aclear aops aone aop aopU unlit isConst constParts relit isBytes litConv aeval lk put cst zcell dstOk ayield aflag undef withH nilOk alen amin amax abuiltin aextract afieldAddr afield aindexAddr aindex aload aloadAt astoreAt newBox abuild abuildSlice parts afill fieldPlaces splice chunk aslice abnd aconv aconvH asrc aappend aappend' aappendT aappendZ acap noBox shareB acopy amake acaps live AV.cells AV.one qops qone number
attribute [go_sem] List.size_toArray cond_true cond_false false_and and_false Nat.lt_irrefl List.set_nil
attribute [go_sem] aslice3 selfOk selfBox List.tail_cons unbs isBs aappendB abslice aunsafeString
attribute [go_sem] nilIf isSl isInt branch_tt branch_ff branch_tf branch_ft askip qskip
attribute [go_sem] abin aint astr aun apick Value.oneCell' notInt ares1 aresL ares

theorem AWP.region_k {P : Program} {E : Ent} {Q : AExit → ASt → Prop} {σ : ASt} {id : Nat} {l : List Oper} (h : ∀ Q' : AExit → ASt → Prop, (∀ e σ, Q e σ → Q' e σ) → aops P E l.toArray Q' l σ) : AWP P E (.region id l.toArray false) Q σ :=
  AWP.region (by simpa using h Q fun _ _ h => h)
theorem AWP.draw_k {P : Program} {E : Ent} {Q : AExit → ASt → Prop} {id : Nat} {os : List Oper} {l : List (Nat × AV)} {H : List Box} (hm : P.follows .mixedOrders = true) (hB : Region.lexB .any os.toArray = true)
    (h : ∀ K : List (Nat × AV) → Prop, (∀ l, Q .normal ⟨l, H⟩ → K l) → qops P E os.toArray H K os l) : AWP P E (.region id os.toArray true) Q ⟨l, H⟩ :=
  AWP.draw hm hB (by simpa using h _ fun _ h => h)

attribute [go_sem] beq_self_eq_true true_and and_true Option.bind Option.map decide_true decide_false decide_eq_true_eq not_true not_false_eq_true Bool.false_eq_true false_implies implies_true true_implies forall_const Option.some.injEq Nat.add_zero Nat.zero_add ne_eq Bool.not_true Bool.not_false Bool.not_eq_true List.map_cons List.map_nil List.append_nil List.all_cons List.all_nil Bool.and_true Bool.and_self Option.isSome_some Int.toNat_natCast List.take_succ_cons List.take_zero List.drop_succ_cons List.drop_zero exists_eq_left' Nat.mul_one Nat.one_mul Nat.zero_mul Int.zero_add Int.add_zero Int.tdiv_eq_ediv_of_nonneg Int.tmod_eq_emod_of_nonneg Int.fdiv_eq_ediv_of_nonneg Nat.min_eq_left IntKind.bits IntKind.signed gt_iff_lt false_or or_false or_true true_or List.set_cons_zero Option.getD Int.cast_ofNat_Int List.take_length

/-! ### Operation by operation -/
theorem aops.step {P : Program} {E : Ent} {ops : Array Oper} {Q : AExit → ASt → Prop} {o : Oper} {rest : List Oper} {σ : ASt}
    (h : ∀ T : ASt → Prop, (∀ σ, aops P E ops Q rest σ → T σ) → match o.guard with
      | none => aone P E Q o T σ
      | some (j, want) => match ayield ops σ.tmps j with
        | some (some t) => Branch t want σ (aone P E Q o T) (askip E o T)
        | some none => askip E o T σ
        | none => False) : aops P E ops Q (o :: rest) σ := by
  simp only [aops]
  exact h _ fun _ h => h
theorem aops.nil {P : Program} {E : Ent} {ops : Array Oper} {Q : AExit → ASt → Prop} {σ : ASt} (h : Q .normal σ) : aops P E ops Q [] σ := h
theorem qops.step {P : Program} {E : Ent} {ops : Array Oper} {H : List Box} {Q : List (Nat × AV) → Prop} {o : Oper} {rest : List Oper} {l : List (Nat × AV)}
    (h : ∀ T : List (Nat × AV) → Prop, (∀ l, qops P E ops H Q rest l → T l) → match o.guard with
      | none => qone P E H o T l
      | some (j, want) => match ayield ops l j with
        | some (some t) => Branch t want l (qone P E H o T) (qskip E o T)
        | some none => qskip E o T l
        | none => False) : qops P E ops H Q (o :: rest) l := by
  simp only [qops]
  exact h _ fun _ h => h
theorem qops.nil {P : Program} {E : Ent} {ops : Array Oper} {H : List Box} {Q : List (Nat × AV) → Prop} {l : List (Nat × AV)} (h : Q l) : qops P E ops H Q [] l := h

/-! ### Numbers -/
@[go_sem] theorem wi64 {x : Int} (h0 : -9223372036854775808 ≤ x) (h1 : x ≤ 9223372036854775807) : IntKind.i64.wrap x = x := by
  simp [IntKind.wrap, IntKind.bits, IntKind.signed]; omega
@[go_sem] theorem wu8 {x : Int} (h0 : 0 ≤ x) (h1 : x ≤ 255) : IntKind.u8.wrap x = x := by
  simp [IntKind.wrap, IntKind.bits, IntKind.signed]; omega
@[go_sem] theorem wu32 {x : Int} (h0 : 0 ≤ x) (h1 : x ≤ 4294967295) : IntKind.u32.wrap x = x := by
  simp [IntKind.wrap, IntKind.bits, IntKind.signed]; omega
@[go_sem] theorem wu64 {x : Int} (h0 : 0 ≤ x) (h1 : x ≤ 18446744073709551615) : IntKind.u64.wrap x = x := by
  simp [IntKind.wrap, IntKind.bits, IntKind.signed]; omega
theorem wi64_idem (x : Int) : IntKind.i64.wrap (IntKind.i64.wrap x) = IntKind.i64.wrap x := by
  simp [IntKind.wrap, IntKind.bits, IntKind.signed]; omega

theorem ofInt_toNat {n : Nat} {a : Int} (h0 : 0 ≤ a) (h1 : a < (2 ^ n : Nat)) : (BitVec.ofInt n a).toNat = a.toNat := by
  rw [BitVec.toNat_ofInt]
  congr 1
  exact Int.emod_eq_of_lt h0 h1
theorem ior_u64 {a b : Int} (ha : 0 ≤ a) (hb : 0 ≤ b) (ha' : a ≤ 18446744073709551615) (hb' : b ≤ 18446744073709551615) : ior .u64 a b = ((a.toNat ||| b.toNat : Nat) : Int) := by
  show IntKind.u64.wrap ((BitVec.ofInt 64 a ||| BitVec.ofInt 64 b).toNat : Int) = _
  have h := (BitVec.ofInt 64 a ||| BitVec.ofInt 64 b).isLt
  rw [wu64 (by omega) (by omega), BitVec.toNat_or, ofInt_toNat ha (by omega), ofInt_toNat hb (by omega)]
theorem iand_u64 {a b : Int} (ha : 0 ≤ a) (hb : 0 ≤ b) (ha' : a ≤ 18446744073709551615) (hb' : b ≤ 18446744073709551615) : iand .u64 a b = ((a.toNat &&& b.toNat : Nat) : Int) := by
  show IntKind.u64.wrap ((BitVec.ofInt 64 a &&& BitVec.ofInt 64 b).toNat : Int) = _
  have h := (BitVec.ofInt 64 a &&& BitVec.ofInt 64 b).isLt
  rw [wu64 (by omega) (by omega), BitVec.toNat_and, ofInt_toNat ha (by omega), ofInt_toNat hb (by omega)]
theorem ior_u8 {a b : Int} (ha : 0 ≤ a) (hb : 0 ≤ b) (ha' : a ≤ 255) (hb' : b ≤ 255) : ior .u8 a b = ((a.toNat ||| b.toNat : Nat) : Int) := by
  show IntKind.u8.wrap ((BitVec.ofInt 8 a ||| BitVec.ofInt 8 b).toNat : Int) = _
  have h := (BitVec.ofInt 8 a ||| BitVec.ofInt 8 b).isLt
  rw [wu8 (by omega) (by omega), BitVec.toNat_or, ofInt_toNat ha (by omega), ofInt_toNat hb (by omega)]
theorem iand_u8 {a b : Int} (ha : 0 ≤ a) (hb : 0 ≤ b) (ha' : a ≤ 255) (hb' : b ≤ 255) : iand .u8 a b = ((a.toNat &&& b.toNat : Nat) : Int) := by
  show IntKind.u8.wrap ((BitVec.ofInt 8 a &&& BitVec.ofInt 8 b).toNat : Int) = _
  have h := (BitVec.ofInt 8 a &&& BitVec.ofInt 8 b).isLt
  rw [wu8 (by omega) (by omega), BitVec.toNat_and, ofInt_toNat ha (by omega), ofInt_toNat hb (by omega)]
theorem iand_i64 {a b : Int} (ha : 0 ≤ a) (hb : 0 ≤ b) (ha' : a ≤ 9223372036854775807) (hb' : b ≤ 9223372036854775807) : iand .i64 a b = ((a.toNat &&& b.toNat : Nat) : Int) := by
  show IntKind.i64.wrap ((BitVec.ofInt 64 a &&& BitVec.ofInt 64 b).toNat : Int) = _
  have h := Nat.and_le_left (n := a.toNat) (m := b.toNat)
  have e : (BitVec.ofInt 64 a &&& BitVec.ofInt 64 b).toNat = a.toNat &&& b.toNat := by rw [BitVec.toNat_and, ofInt_toNat ha (by omega), ofInt_toNat hb (by omega)]
  rw [e, wi64 (by omega) (by omega)]
theorem ior_i64 {a b : Int} (ha : 0 ≤ a) (hb : 0 ≤ b) (ha' : a ≤ 9223372036854775807) (hb' : b ≤ 9223372036854775807) : ior .i64 a b = ((a.toNat ||| b.toNat : Nat) : Int) := by
  show IntKind.i64.wrap ((BitVec.ofInt 64 a ||| BitVec.ofInt 64 b).toNat : Int) = _
  have h : a.toNat ||| b.toNat < 2 ^ 63 := Nat.or_lt_two_pow (by omega) (by omega)
  have e : (BitVec.ofInt 64 a ||| BitVec.ofInt 64 b).toNat = a.toNat ||| b.toNat := by rw [BitVec.toNat_or, ofInt_toNat ha (by omega), ofInt_toNat hb (by omega)]
  rw [e, wi64 (by omega) (by omega)]

@[go_sem] theorem bytesG_length (bs : List UInt8) : (bytesG bs).length = bs.length := by simp [bytesG]
@[go_sem] theorem bytesG_get (bs : List UInt8) (i : Nat) : (bytesG bs)[i]? = (bs[i]?).map fun b => [AV.v (.int .u8 b.toNat)] := by simp [bytesG]
@[go_sem] theorem bytesG_take (bs : List UInt8) (i : Nat) : (bytesG bs).take i = bytesG (bs.take i) := by simp [bytesG, List.map_take]
@[go_sem] theorem bytesG_drop (bs : List UInt8) (i : Nat) : (bytesG bs).drop i = bytesG (bs.drop i) := by simp [bytesG, List.map_drop]
@[go_sem] theorem bytesOf_G (bs : List UInt8) : bytesOf (bytesG bs) = some bs := bytesOf_bytesG bs
/-- Cells of bytes. -/
def bytesC (bs : List UInt8) : List AV := bs.map fun b => .v (.int .u8 b.toNat)
@[go_sem] theorem flat_bytesG (bs : List UInt8) : flat (bytesG bs) = bytesC bs := by
  unfold flat bytesG bytesC
  induction bs with
  | nil => rfl
  | cons b r ih => simp only [List.map_cons, List.flatten_cons, ih]; rfl
@[go_sem] theorem bytesC_length (bs : List UInt8) : (bytesC bs).length = bs.length := by simp [bytesC]
@[go_sem] theorem bytesC_append (a b : List UInt8) : bytesC a ++ bytesC b = bytesC (a ++ b) := by simp [bytesC]
@[go_sem] theorem bytesC_drop (a : List UInt8) (n : Nat) : (bytesC a).drop n = bytesC (a.drop n) := by simp [bytesC, List.map_drop]
def zerosB (n : Nat) : List UInt8 := List.replicate n 0
@[go_sem] theorem zerosB_length (n : Nat) : (zerosB n).length = n := by simp [zerosB]
theorem bytesC_lt (bs : List UInt8) (j : Nat) (c : AV) (h : (bytesC bs)[j]? = some c) : Lt 0 c := by
  simp only [bytesC, List.getElem?_map] at h
  obtain ⟨b, _, rfl⟩ := Option.map_eq_some_iff.1 h
  exact .v _
@[go_sem] theorem flat_nil : flat ([] : List (List AV)) = [] := rfl
@[go_sem] theorem flat_cons (g : List AV) (r : List (List AV)) : flat (g :: r) = g ++ flat r := rfl
@[go_sem] theorem bytesC_snoc (a : List UInt8) (x : Int) (h0 : 0 ≤ x) (h1 : x ≤ 255) : bytesC a ++ [.v (.int .u8 x)] = bytesC (a ++ [UInt8.ofNat x.toNat]) := by
  have e : ((UInt8.ofNat x.toNat).toNat : Int) = x := by
    rw [UInt8.toNat_ofNat']
    omega
  simp only [bytesC, List.map_append, List.map_cons, List.map_nil, e]
theorem chunk_bytesC (bs : List UInt8) : ∀ n, n = bs.length → chunk 1 n (bytesC bs) = bytesG bs := by
  induction bs with
  | nil => intro n h; subst h; rfl
  | cons b r ih => intro n h; subst h; simp only [List.length_cons, chunk, bytesC, List.map_cons, List.take_succ_cons, List.take_zero, List.drop_succ_cons, List.drop_zero]; exact congrArg _ (ih r.length rfl)
@[go_sem] theorem strData (bs : List UInt8) : (⟨bs.toArray⟩ : ByteArray).data.toList = bs := rfl
@[go_sem] theorem strSize (bs : List UInt8) : (⟨bs.toArray⟩ : ByteArray).size = bs.length := by show bs.toArray.size = _; simp
theorem lt_bytes {n : Nat} (bs : List UInt8) : Lt n (.lst 1 (bytesG bs)) := .lst _ _ fun i j g c hi hj => by
  obtain ⟨b, _, rfl⟩ := bytes_get hi
  cases j with
  | zero => simp at hj; subst hj; exact .v _
  | succ j => simp at hj

@[go_sem] theorem ite_pos' {α : Sort _} {c : Prop} [Decidable c] {a b : α} (h : c) : (if c then a else b) = a := if_pos h
@[go_sem] theorem ite_neg' {α : Sort _} {c : Prop} [Decidable c] {a b : α} (h : ¬ c) : (if c then a else b) = b := if_neg h

theorem acall.det {P : Program} {base : Nat} {f : FuncId} {args : List AV} {H : List Box} {K : Out → List Box → Prop} {X : Out} {Y : List Box} (h : ASpec P f args H (fun o H' => o = X ∧ H' = Y)) (hK : K X Y) : acall P base f args H K :=
  h.use fun o H' ⟨e1, e2⟩ => by rw [e1, e2]; exact hK
theorem qcall.det {P : Program} {base : Nat} {f : FuncId} {args : List AV} {H : List Box} {K : AV → Prop} {r : AV} (h : ASpec P f args H (fun o H' => o = .ret r ∧ H' = H)) (hK : K r) :
    ∃ r, acall P base f args H (fun o H' => o = .ret r ∧ H' = H) ∧ K r := ⟨r, h base, hK⟩
theorem Fin.same {E : Ent} {r : AV} {K : AV → List Box → Prop} (h : K r E.H) : Fin E r E.H K := ⟨r, E.H, Shed.refl _ _ _, h⟩
theorem Fin.cut {E : Ent} {r : AV} {N : List Box} {K : AV → List Box → Prop} (hr : Lt 0 r) (h : K r E.H) : Fin E r (E.H ++ N) K := ⟨r, E.H, Shed.cut hr, h⟩
theorem Fin.own {E : Ent} {N : List Box} {i g n sz : Nat} {full : Bool} {bx : Box} {K : AV → List Box → Prop} (hb : N[i]? = some bx) (hg : bx.gen = g) (hc : ∀ (j : Nat) (c : AV), bx.cells[j]? = some c → Lt 0 c)
    (h : K (.sl E.H.length 0 0 n sz full) (E.H ++ [⟨bx.cells, bx.ro, 0, bx.grow⟩])) : Fin E (.sl (E.H.length + i) g 0 n sz full) (E.H ++ N) K :=
  ⟨_, _, Shed.own (b := E.H.length + i) (by rw [List.getElem?_append_right (by omega)]; simpa using hb) hg (by omega) hc, h⟩
theorem Fin.mono {E : Ent} {r : AV} {H : List Box} {K K' : AV → List Box → Prop} (h : Fin E r H K) (hK : ∀ r H, K r H → K' r H) : Fin E r H K' := let ⟨r', H', h1, h2⟩ := h; ⟨r', H', h1, hK _ _ h2⟩

/-! ### Boxes behind others -/
@[go_sem] theorem getH (H N : List Box) (i : Nat) : (H ++ N)[H.length + i]? = N[i]? := by rw [List.getElem?_append_right (by omega)]; congr 1; omega
@[go_sem] theorem getH0 (H N : List Box) : (H ++ N)[H.length]? = N[0]? := by rw [List.getElem?_append_right (Nat.le_refl _), Nat.sub_self]
@[go_sem] theorem setH (H N : List Box) (i : Nat) (b : Box) : (H ++ N).set (H.length + i) b = H ++ N.set i b := by rw [List.set_append_right _ _ (by omega)]; congr 2; omega
@[go_sem] theorem setH0 (H N : List Box) (b : Box) : (H ++ N).set H.length b = H ++ N.set 0 b := by rw [List.set_append_right _ _ (Nat.le_refl _), Nat.sub_self]
@[go_sem] theorem appH (H N M : List Box) : H ++ N ++ M = H ++ (N ++ M) := List.append_assoc _ _ _
@[go_sem] theorem lenH (H N : List Box) : (H ++ N).length = H.length + N.length := List.length_append
attribute [go_sem] List.cons_append List.nil_append List.length_cons List.length_nil List.set_cons_zero List.set_cons_succ List.getElem?_cons_zero List.getElem?_cons_succ List.getElem?_toArray List.getElem?_nil

end Go.Proofs.YtkkhbmpcpilmfaaDoor.VL

/- Each operation of the evaluator does what the model's operation does: numbers' bits, structs held against each other. -/
import Derived.Test.YtffgakphodjbjaaGreatDoorRotOps3
import Derived.Laws.StructEq
set_option linter.unusedVariables false
set_option linter.unusedSimpArgs false
namespace Go.Abs
open Go.RowKit

theorem nat2_ok {x y v : Value} {f : IntKind → Nat → Nat → Option Value} (h : nat2 x y f = some v) : ∃ k a b, x = .int k (.ofNat a) ∧ y = .int k (.ofNat b) ∧ f k a b = some v := by
  unfold nat2 at h
  split at h
  · split at h
    · rename_i k a _ l b
      cases hk : (k == l) with
      | false => rw [hk] at h; cases h
      | true =>
        rw [hk] at h
        have : k = l := by simpa using hk
        subst this
        exact ⟨k, a, b, rfl, rfl, h⟩
    · cases h
  · cases h
theorem natSh_ok {x y v : Value} {f : IntKind → Nat → Nat → Option Value} (h : natSh x y f = some v) : ∃ k l a b, x = .int k (.ofNat a) ∧ y = .int l (.ofNat b) ∧ f k a b = some v := by
  unfold natSh at h
  split at h
  · split at h
    · exact ⟨_, _, _, _, rfl, rfl, h⟩
    · cases h
  · cases h
theorem bif_some {b : Bool} {α : Type} {o : Option α} {v : α} (h : (bif b then o else none) = some v) : b = true ∧ o = some v := by
  cases b with
  | false => cases h
  | true => exact ⟨rfl, h⟩
theorem bif_none {b : Bool} {α : Type} {o : Option α} {v : α} (h : (bif b then none else o) = some v) : b = false ∧ o = some v := by
  cases b with
  | false => exact ⟨rfl, h⟩
  | true => cases h
theorem limK_eq (k : IntKind) : limK k = 2 ^ k.bits := by cases k <;> rfl
theorem bitsK_eq (k : IntKind) : bitsK k = k.bits := by cases k <;> rfl
theorem ofInt_nat (n a : Nat) (h : a < 2 ^ n) : (BitVec.ofInt n (Int.ofNat a)).toNat = a := by
  rw [show Int.ofNat a = (a : Int) from rfl, BitVec.ofInt_natCast, BitVec.toNat_ofNat, Nat.mod_eq_of_lt h]
theorem inK_ok {k : IntKind} {a b : Nat} {o : Option Value} {v : Value} (h : inK k a b o = some v) : a < 2 ^ k.bits ∧ b < 2 ^ k.bits ∧ o = some v := by
  obtain ⟨h1, h2⟩ := bif_some h
  simp only [Bool.and_eq_true, Nat.blt_eq, limK_eq] at h1
  exact ⟨h1.1, h1.2, h2⟩

theorem fastBin2_run {op : BinOp} {x y v : Value} (h : fastBin2 op x y = some v) (P : Program) (t : TypeId) (a b : Operand) (w : World) :
    (do eqGuard op t a b x y; binOp op t x y : Sem Value).run P w = .ok v w ∧ plain v = true ∧ plain x = true ∧ plain y = true := by
  unfold fastBin2 at h
  split at h
  · split at h
    · split at h
      · rename_i p _ q
        obtain ⟨h1, h2⟩ := bif_some h
        cases h2
        refine ⟨?_, rfl, rfl, rfl⟩
        have h1 := Nat.le_of_ble_eq_true h1
        simp only [Array.length_toList] at h1
        have hs : ¬ ((p.size + q.size : Nat) : Int) > IntKind.i64.max := by
          rw [show IntKind.i64.max = 9223372036854775807 by decide]
          have e1 : p.size = p.data.size := rfl
          have e2 : q.size = q.data.size := rfl
          omega
        have he : p ++ q = ⟨⟨p.data.toList ++ q.data.toList⟩⟩ := by
          apply ByteArray.ext
          rw [ByteArray.data_append]
          apply Array.ext'
          simp
        show (Op.stringOp .add p q).run P w = _
        unfold Op.stringOp
        dsimp only
        rw [if_neg hs, he]
        rfl
      · cases h
    · cases h
  · obtain ⟨k, m, n, rfl, rfl, h'⟩ := nat2_ok h
    obtain ⟨h1, h2⟩ := bif_none h'
    cases h2
    refine ⟨?_, rfl, rfl, rfl⟩
    have hn := Nat.ne_of_beq_eq_false h1
    have : (if k ≠ k then (stuck "BinOp: operands of different kinds" : Sem Value) else Op.intDiv .quo k (Int.ofNat m) (Int.ofNat n)).run P w = .ok (.int k (wrapA k (.ofNat (m / n)))) w := by
      rw [if_neg (by simp), wrapA_eq]
      unfold Op.intDiv
      rw [if_neg (by simpa using hn)]
      rfl
    exact this
  · obtain ⟨k, m, n, rfl, rfl, h'⟩ := nat2_ok h
    obtain ⟨h1, h2⟩ := bif_none h'
    cases h2
    refine ⟨?_, rfl, rfl, rfl⟩
    have hn := Nat.ne_of_beq_eq_false h1
    have : (if k ≠ k then (stuck "BinOp: operands of different kinds" : Sem Value) else Op.intDiv .rem k (Int.ofNat m) (Int.ofNat n)).run P w = .ok (.int k (.ofNat (m % n))) w := by
      rw [if_neg (by simp)]
      unfold Op.intDiv
      rw [if_neg (by simpa using hn)]
      rfl
    exact this
  · obtain ⟨k, m, n, rfl, rfl, h'⟩ := nat2_ok h
    obtain ⟨hm, hn, h2⟩ := inK_ok h'
    cases h2
    refine ⟨?_, rfl, rfl, rfl⟩
    have : (if k ≠ k then (stuck "BinOp: operands of different kinds" : Sem Value) else Op.intBits .and k (Int.ofNat m) (Int.ofNat n)).run P w = .ok (.int k (wrapA k (.ofNat (Nat.land m n)))) w := by
      rw [if_neg (by simp), wrapA_eq]
      show Result.ok (Value.int k (k.wrap ((BitVec.ofInt k.bits (Int.ofNat m) &&& BitVec.ofInt k.bits (Int.ofNat n)).toNat))) w = _
      rw [BitVec.toNat_and, ofInt_nat _ _ hm, ofInt_nat _ _ hn]
      rfl
    exact this
  · obtain ⟨k, m, n, rfl, rfl, h'⟩ := nat2_ok h
    obtain ⟨hm, hn, h2⟩ := inK_ok h'
    cases h2
    refine ⟨?_, rfl, rfl, rfl⟩
    have : (if k ≠ k then (stuck "BinOp: operands of different kinds" : Sem Value) else Op.intBits .or k (Int.ofNat m) (Int.ofNat n)).run P w = .ok (.int k (wrapA k (.ofNat (Nat.lor m n)))) w := by
      rw [if_neg (by simp), wrapA_eq]
      show Result.ok (Value.int k (k.wrap ((BitVec.ofInt k.bits (Int.ofNat m) ||| BitVec.ofInt k.bits (Int.ofNat n)).toNat))) w = _
      rw [BitVec.toNat_or, ofInt_nat _ _ hm, ofInt_nat _ _ hn]
      rfl
    exact this
  · obtain ⟨k, m, n, rfl, rfl, h'⟩ := nat2_ok h
    obtain ⟨hm, hn, h2⟩ := inK_ok h'
    cases h2
    refine ⟨?_, rfl, rfl, rfl⟩
    have : (if k ≠ k then (stuck "BinOp: operands of different kinds" : Sem Value) else Op.intBits .xor k (Int.ofNat m) (Int.ofNat n)).run P w = .ok (.int k (wrapA k (.ofNat (Nat.xor m n)))) w := by
      rw [if_neg (by simp), wrapA_eq]
      show Result.ok (Value.int k (k.wrap ((BitVec.ofInt k.bits (Int.ofNat m) ^^^ BitVec.ofInt k.bits (Int.ofNat n)).toNat))) w = _
      rw [BitVec.toNat_xor, ofInt_nat _ _ hm, ofInt_nat _ _ hn]
      rfl
    exact this
  · obtain ⟨k, l, m, n, rfl, rfl, h'⟩ := natSh_ok h
    obtain ⟨h1, h2⟩ := bif_some h'
    cases h2
    refine ⟨?_, rfl, rfl, rfl⟩
    have h1 := Nat.le_of_ble_eq_true h1
    rw [bitsK_eq] at h1
    have : (Op.shift .shl k (Int.ofNat m) l (Int.ofNat n)).run P w = .ok (.int k (wrapA k (.ofNat (m * 2 ^ n)))) w := by
      rw [wrapA_eq]
      unfold Op.shift
      rw [if_neg (by simp)]
      dsimp only
      rw [show min (Int.ofNat n).toNat k.bits = n from Nat.min_eq_left h1]
      show Result.ok (Value.int k (k.wrap (Int.ofNat m * 2 ^ n))) w = _
      have : (Int.ofNat m * 2 ^ n : Int) = Int.ofNat (m * 2 ^ n) := by simp
      rw [this]
    exact this
  · obtain ⟨k, l, m, n, rfl, rfl, h'⟩ := natSh_ok h
    obtain ⟨h1, h2⟩ := bif_some h'
    cases h2
    refine ⟨?_, rfl, rfl, rfl⟩
    have h1 := Nat.le_of_ble_eq_true h1
    rw [bitsK_eq] at h1
    have : (Op.shift .shr k (Int.ofNat m) l (Int.ofNat n)).run P w = .ok (.int k (.ofNat (m / 2 ^ n))) w := by
      unfold Op.shift
      rw [if_neg (by simp)]
      dsimp only
      rw [show min (Int.ofNat n).toNat k.bits = n from Nat.min_eq_left h1]
      show Result.ok (Value.int k ((Int.ofNat m).fdiv (2 ^ n))) w = _
      have h2 : (2 ^ n : Int) = Int.ofNat (2 ^ n) := by simp
      rw [h2, show (Int.ofNat m).fdiv (Int.ofNat (2 ^ n)) = Int.ofNat (m / 2 ^ n) from (Int.ofNat_fdiv m (2 ^ n)).symm]
    exact this
  · cases h

section
variable {E : Env} {G B : Nat} {w0 w : World} {ρ : Ren} {s s' : St}
theorem eqCell_run (ok : EnvOk E G) {t : TypeId} {i : TI} (hti : tiOf E.types t = some i) {x y : Value} {b : Bool} (h : eqCell i.under x y = some b) (d : Nat) (w : World) : (Op.equalIn (d + 1) t x y).run E.P w = .ok b w ∧ plain1 x = true ∧ plain1 y = true := by
  obtain ⟨info, z, T⟩ := tiOf_ok ok hti
  have hu := T.under
  unfold eqCell at h
  split at h
  · rename_i k0 hk0
    rw [hk0] at hu
    split at h <;> first | (cases h; done) | skip
    split at h <;> first | (cases h; done) | skip
    rename_i k a _ l c
    obtain ⟨h1, h2⟩ := bif_some h
    have : k = l := by simpa using h1
    subst this
    cases h2
    exact ⟨by rw [run_equalIn_int w d t k k0 a c hu, eqA_eq], rfl, rfl⟩
  · rename_i hk0
    rw [hk0] at hu
    split at h <;> first | (cases h; done) | skip
    split at h <;> first | (cases h; done) | skip
    cases h
    exact ⟨by rw [run_equalIn_string w d t _ _ hu, bytesEq_eq, ByteArray.toList_eq, ByteArray.toList_eq], rfl, rfl⟩
  · rename_i hk0
    rw [hk0] at hu
    split at h <;> first | (cases h; done) | skip
    split at h <;> first | (cases h; done) | skip
    cases h
    exact ⟨run_equalIn_bool' w d t _ _ hu, rfl, rfl⟩
  · cases h

theorem eqFlat_run (ok : EnvOk E G) {xs ys xs' ys' : List Value} (hx : All2 (V1 ρ) xs xs') (hy : All2 (V1 ρ) ys ys') (d : Nat) (w : World) : ∀ (fs : List Field) {b : Bool}, fs.all (flatField E.types) = true → eqFlat E.types xs ys fs = some b → (Op.eqFields (d + 1) ⟨xs'⟩ ⟨ys'⟩ fs).run E.P w = .ok b w
  | [], b, _, h => by cases h; rfl
  | f :: fs, b, ha, h => by
    rw [List.all_cons, Bool.and_eq_true] at ha
    obtain ⟨hf, ha⟩ := ha
    unfold flatField at hf
    rw [Bool.and_eq_true] at hf
    obtain ⟨hn, hs⟩ := hf
    have hname : f.name ≠ "_" := by simpa using hn
    unfold eqFlat at h
    cases hti : tiOf E.types f.type with
    | none => rw [hti] at hs; cases hs
    | some i =>
      rw [hti] at hs h
      dsimp only at hs h
      rw [Bool.and_eq_true] at hs
      have hag : i.isAgg = false := by simpa using hs.2
      cases h1 : xs[f.offset]? with
      | none => rw [h1] at h; cases h
      | some x => cases h2 : ys[f.offset]? with
        | none => rw [h1, h2] at h; cases h
        | some y =>
          rw [h1, h2] at h
          dsimp only at h
          cases hc : eqCell i.under x y with
          | none => rw [hc] at h; cases h
          | some q =>
            rw [hc] at h
            dsimp only at h
            obtain ⟨hrun, px, py⟩ := eqCell_run ok hti hc d w
            obtain ⟨x', hx1, hx2⟩ := hx.get f.offset x h1
            obtain ⟨y', hy1, hy2⟩ := hy.get f.offset y h2
            have ex := hx2.plain_eq px
            have ey := hy2.plain_eq py
            subst ex
            subst ey
            obtain ⟨info, z, T⟩ := tiOf_ok ok hti
            have p1 : (part f.type ⟨xs'⟩ f.offset).run E.P w = .ok x' w := by simp [part, T.run_agg, hag, hx1]
            have p2 : (part f.type ⟨ys'⟩ f.offset).run E.P w = .ok y' w := by simp [part, T.run_agg, hag, hy1]
            unfold Op.eqFields
            rw [if_pos hname]
            simp only [Sem.run_bind, p1, p2, Result.andThen_ok, hrun]
            cases q with
            | true =>
              simp only [Bool.not_true, Bool.false_eq_true, if_false]
              exact eqFlat_run ok hx hy d w fs ha h
            | false =>
              simp only [Bool.not_false, if_true]
              cases h
              rfl

theorem eqStruct_gives (ok : EnvOk E G) (r : Rel G B w0 ρ s.heap w) {op : BinOp} {t : TypeId} {x y x' y' v : Value} (h : eqStruct E op t x y = some v) (hx : VR ρ x x') (hy : VR ρ y y') (a b : Operand) :
    Gives G B w0 ρ s s v ((do eqGuard op t a b x' y'; binOp op t x' y' : Sem Value).run E.P w) := by
  unfold eqStruct at h
  split at h
  · rename_i cs
    split at h
    · rename_i ds
      obtain ⟨hflat, h⟩ := bif_some h
      obtain ⟨cs', rfl, hc⟩ := VR.agg (cs := cs.toList) hx
      obtain ⟨ds', rfl, hd⟩ := VR.agg (cs := ds.toList) hy
      unfold flatT at hflat
      split at h
      · rename_i fs hfs
        rw [hfs] at hflat
        dsimp only at hflat
        simp only [Bool.and_eq_true, Bool.not_eq_true'] at hflat
        obtain ⟨hstood, hguard, hall⟩ := hflat
        have hu := under?_ok ok hfs
        have hfo : E.P.fieldsOf t = fs := by unfold Program.fieldsOf; rw [hu]
        cases he : eqFlat E.types cs.toList ds.toList fs.toList with
        | none => rw [he] at h; cases h
        | some q =>
          rw [he] at h
          dsimp only at h
          have hrun := eqFlat_run ok hc hd 9998 w fs.toList hall he
          have hin : (Op.equalIn 10000 t (.agg ⟨cs'⟩) (.agg ⟨ds'⟩)).run E.P w = .ok q w := by
            rw [run_equalIn_struct w 9999 t ⟨cs'⟩ ⟨ds'⟩ (by rw [hfo]; exact hu) hstood, hfo]
            exact hrun
          have hg := run_eqGuard_agg (P := E.P) w op t a b ⟨cs'⟩ ⟨ds'⟩ hguard
          unfold eqNil at h
          split at h
          · cases h
            refine Gives.same r (v' := .bool q) ?_ rfl (VR.of_plain rfl)
            rw [Sem.run_bind, hg, Result.andThen_ok, run_eql_struct, hin]
            rfl
          · cases h
            refine Gives.same r (v' := .bool (!q)) ?_ rfl (VR.of_plain rfl)
            rw [Sem.run_bind, hg, Result.andThen_ok, run_neq_struct, hin]
            rfl
          · cases h
      · cases h
    · cases h
  · cases h
end
end Go.Abs

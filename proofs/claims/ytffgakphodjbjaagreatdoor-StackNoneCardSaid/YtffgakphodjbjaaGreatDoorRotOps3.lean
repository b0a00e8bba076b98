/- Each operation of the evaluator does what the model's operation does: the rest, and all together. -/
import Derived.Test.YtffgakphodjbjaaGreatDoorRotApp
import Derived.Laws.Strings
import Derived.Laws.BytesArg
set_option linter.unusedVariables false
set_option linter.unusedSimpArgs false
namespace Go.Abs
open Go.RowKit

theorem under?_ok {E : Env} {G : Nat} (ok : EnvOk E G) {t : TypeId} {d : TypeDesc} (h : under? E t = some d) : E.P.underlying t = some d := by
  unfold under? at h
  cases hg : E.types.get t with
  | none => rw [hg] at h; cases h
  | some j =>
    rw [hg] at h
    have hj := ok.types t j hg
    unfold Program.underlying
    rw [hj]
    dsimp only at h
    unfold underOf at h
    split at h
    · rename_i nm u hu
      cases hk : E.types.get u with
      | none => rw [hk] at h; cases h
      | some k =>
        rw [hk] at h
        cases h
        have := ok.types u k hk
        obtain ⟨desc, str, size, bytes, hp, al, fa, ze, co, me⟩ := j
        simp only at hu
        subst hu
        simp [this]
    · rename_i hne
      cases h
      obtain ⟨desc, str, size, bytes, hp, al, fa, ze, co, me⟩ := j
      cases desc <;> first | rfl | exact absurd rfl (hne _ _)

/-! ## Trees that ask nothing -/
theorem value?_run {P : Program} {α : Type} : ∀ (m : Sem α) {a : α}, value? P m = some a → ∀ w, m.run P w = .ok a w
  | .pure b, a, h, w => by cases h; rfl
  | .program k, a, h, w => value?_run (k P) (by simpa [value?] using h) w
  | .mark _ k, a, h, w => value?_run k (by simpa [value?] using h) w
  | .load .., a, h, w => by simp [value?] at h
  | .store .., a, h, w => by simp [value?] at h
  | .new .., a, h, w => by simp [value?] at h
  | .shape .., a, h, w => by simp [value?] at h
  | .freeze .., a, h, w => by simp [value?] at h
  | .frozen .., a, h, w => by simp [value?] at h
  | .getObj .., a, h, w => by simp [value?] at h
  | .setObj .., a, h, w => by simp [value?] at h
  | .choose .., a, h, w => by simp [value?] at h
  | .sys .., a, h, w => by simp [value?] at h
  | .halt _, a, h, w => by simp [value?] at h

/-! ## An operation asks its operands alone -/
theorem map_congr' {α β : Type} {f g : α → β} {l : Array α} (h : ∀ x, x ∈ l → f x = g x) : l.map f = l.map g := by
  apply Array.ext'
  simp only [Array.toList_map]
  exact List.map_congr_left fun x hx => h x (by simpa using hx)
theorem optMap_congr {α β : Type} {f g : α → β} {l : Option α} (h : ∀ x, l = some x → f x = g x) : l.map f = l.map g := by
  cases l with
  | none => rfl
  | some a => simp [h a rfl]

theorem resolve_congr {ρ ρ' : Operand → Value} {c : Call} {t : TypeId} (h : ∀ x, x ∈ c.operands → ρ x = ρ' x) : resolve ρ c t = resolve ρ' c t := by
  have h1 : c.args.map ρ = c.args.map ρ' := map_congr' fun x hx => h x (by
    unfold Call.operands
    exact Array.mem_append.2 (.inr hx))
  unfold resolve
  rw [h1]
  cases hc : c.callee with
  | value f => dsimp only; rw [h f (by unfold Call.operands; rw [hc]; simp)]
  | invoke r m => dsimp only; rw [h r (by unfold Call.operands; rw [hc]; simp)]
  | builtin b => rfl

theorem execOp_congr {ρ ρ' : Operand → Value} {o : Oper} (hsel : ∀ cs b, o.op ≠ .select cs b) (h : ∀ x, x ∈ o.op.operands.toList → ρ x = ρ' x) : execOp ρ o = execOp ρ' o := by
  have h' : ∀ x, x ∈ o.op.operands → ρ x = ρ' x := fun x hx => h x (by simpa using hx)
  unfold execOp
  cases ho : o.op <;> rw [ho] at h' <;> simp only [Op.operands] at h' <;> dsimp only
  case move x => rw [h' x (by simp)]
  case assign x => rw [h' x (by simp)]
  case pick c a b => rw [h' c (by simp), h' a (by simp), h' b (by simp)]
  case box t x => rw [h' x (by simp)]
  case build t ps =>
    rw [map_congr' (f := fun (p : Nat × Operand) => (p.1, ρ p.2)) (g := fun p => (p.1, ρ' p.2)) fun p hp => by rw [h' p.2 (by simp; exact ⟨p.1, by simpa using hp⟩)]]
  case buildSlice t n ps =>
    rw [map_congr' (f := fun (p : Nat × Operand) => (p.1, ρ p.2)) (g := fun p => (p.1, ρ' p.2)) fun p hp => by rw [h' p.2 (by simp; exact ⟨p.1, by simpa using hp⟩)]]
  case insert t m k v => rw [h' m (by simp), h' k (by simp), h' v (by simp)]
  case load t a => rw [h' a (by simp)]
  case store t a v => rw [h' a (by simp), h' v (by simp)]
  case nilCheck x => rw [h' x (by simp)]
  case binOp op t x y u => rw [h' x (by simp), h' y (by simp)]
  case unOp op t x => rw [h' x (by simp)]
  case convert a b x => rw [h' x (by simp)]
  case sliceToArrayPointer a x => rw [h' x (by simp)]
  case makeInterface t x => rw [h' x (by simp)]
  case makeFunc f a b => rw [map_congr' fun x hx => h' x (by simp [hx]), map_congr' (l := b) fun x hx => h' x (by simp [hx])]
  case makeMap t r => rw [optMap_congr fun x hx => h' x (by simp [hx])]
  case makeChan t x => rw [h' x (by simp)]
  case makeSlice t a b => rw [h' a (by simp), h' b (by simp)]
  case slice t x l hi m => rw [h' x (by simp), optMap_congr (l := l) fun x hx => h' x (by simp [hx]), optMap_congr (l := hi) fun x hx => h' x (by simp [hx]), optMap_congr (l := m) fun x hx => h' x (by simp [hx])]
  case fieldAddr s x f => rw [h' x (by simp)]
  case field s x f => rw [h' x (by simp)]
  case indexAddr t x i => rw [h' x (by simp), h' i (by simp)]
  case index t x i => rw [h' x (by simp), h' i (by simp)]
  case lookup t x i c => rw [h' x (by simp), h' i (by simp)]
  case mapUpdate t m k v => rw [h' m (by simp), h' k (by simp), h' v (by simp)]
  case mapEntry t m k => rw [h' m (by simp), h' k (by simp)]
  case entryStore t m k v => rw [h' m (by simp), h' k (by simp), h' v (by simp)]
  case range t x => rw [h' x (by simp)]
  case next x b => rw [h' x (by simp)]
  case entry x => rw [h' x (by simp)]
  case typeAssert x a b c => rw [h' x (by simp)]
  case extract x i => rw [h' x (by simp)]
  case call c => rw [resolve_congr fun x hx => h' x hx]
  case go c => rw [resolve_congr fun x hx => h' x hx]
  case defer c => rw [resolve_congr fun x hx => h' x hx]
  case panic x => rw [h' x (by simp)]
  case send c x => rw [h' c (by simp), h' x (by simp)]
  case recv t x c => rw [h' x (by simp)]
  case select cs b => exact absurd ho (hsel cs b)

/-! ## What an operation has to give -/
def NextOk (nx : Next) (v' : Value) : Prop := nx = .value v' ∨ (nx = .skip ∧ v' = undef)
def OpGives (G B : Nat) (w0 : World) (ρ : Ren) (s s' : St) (v : Value) (res : Result Next) : Prop :=
  ∃ nx v' w' ρ', res = .ok nx w' ∧ NextOk nx v' ∧ Ext ρ ρ' s.next s'.next ∧ Rel G B w0 ρ' s'.heap w' ∧ VR ρ' v v'

section
variable {E : Env} {G B : Nat} {w0 w : World} {ρ : Ren} {s s' : St}

theorem Gives.op {v : Value} {m : Sem Value} (h : Gives G B w0 ρ s s' v (m.run E.P w)) : OpGives G B w0 ρ s s' v ((do pure (Next.value (← m)) : Sem Next).run E.P w) := by
  obtain ⟨v', w', ρ', h1, h2, h3, h4⟩ := h
  exact ⟨.value v', v', w', ρ', by simp [h1], .inl rfl, h2, h3, h4⟩
theorem OpGives.same (r : Rel G B w0 ρ s.heap w) {v v' : Value} {res : Result Next} (hr : res = .ok (.value v') w) (hh : s'.heap = s.heap) (hv : VR ρ v v') : OpGives G B w0 ρ s s' v res :=
  ⟨_, v', w, ρ, hr, .inl rfl, Ext.refl _ _ _, by rw [hh]; exact r, hv⟩

/-- The general rule. -/
theorem plain_gives (r : Rel G B w0 ρ s.heap w) {ra rc : Operand → Value} {o : Oper} (hsel : ∀ cs b, o.op ≠ .select cs b) (ho : ∀ x, x ∈ o.op.operands.toList → VR ρ (ra x) (rc x)) {v : Value} (h : M.of (plainA E ra o) s = .ok v s') :
    OpGives G B w0 ρ s s' v ((execOp rc o).run E.P w) := by
  obtain ⟨h1, rfl⟩ := of_ok h
  unfold plainA at h1
  cases hp : o.op.operands.toList.all (fun x => plain (ra x)) with
  | false => rw [hp] at h1; cases h1
  | true =>
    rw [hp] at h1
    simp only [cond_true] at h1
    have e : execOp rc o = execOp ra o := execOp_congr hsel fun x hx => (ho x hx).plain_eq (List.all_eq_true.1 hp x hx)
    split at h1
    · rename_i u hu
      cases hpu : plain u with
      | false => rw [hpu] at h1; cases h1
      | true =>
        rw [hpu] at h1
        cases h1
        rw [e]
        exact OpGives.same r (value?_run _ hu w) rfl (VR.of_plain hpu)
    · cases h1

/-! ## Numbers and strings -/
theorem wrapA_eq (k : IntKind) (n : Int) : wrapA k n = k.wrap n := by
  unfold wrapA
  split
  · rename_i m
    cases hb : Nat.blt m 9223372036854775808 with
    | false => rfl
    | true =>
      rw [Nat.blt_eq] at hb
      show Int.ofNat m = _
      rw [IntKind.wrap_i64]
      simp only [Int.ofNat_eq_natCast]
      omega
  · rename_i m
    cases hb : Nat.blt m 2147483648 with
    | false => rfl
    | true =>
      rw [Nat.blt_eq] at hb
      show Int.ofNat m = _
      simp [IntKind.wrap, IntKind.bits, IntKind.signed]
      omega
  · rename_i m
    cases hb : Nat.blt m 256 with
    | false => rfl
    | true =>
      rw [Nat.blt_eq] at hb
      show Int.ofNat m = _
      simp [IntKind.wrap, IntKind.bits, IntKind.signed]
      omega
  · rfl
theorem ltA_eq (a b : Int) : ltA a b = decide (a < b) := by
  cases a with
  | ofNat a =>
    cases b with
    | ofNat b =>
      show Nat.blt a b = _
      cases h : Nat.blt a b with
      | true => rw [Nat.blt_eq] at h; symm; rw [decide_eq_true_iff]; exact Int.ofNat_lt.2 h
      | false =>
        symm; rw [decide_eq_false_iff_not]
        intro h'
        have : a < b := Int.ofNat_lt.1 h'
        rw [← Nat.blt_eq, h] at this
        cases this
    | negSucc b => symm; show decide _ = false; rw [decide_eq_false_iff_not]; simp only [Int.ofNat_eq_natCast]; omega
  | negSucc a =>
    cases b with
    | ofNat b => symm; show decide _ = true; rw [decide_eq_true_iff]; simp only [Int.ofNat_eq_natCast]; omega
    | negSucc b =>
      show Nat.blt b a = _
      cases h : Nat.blt b a with
      | true => rw [Nat.blt_eq] at h; symm; rw [decide_eq_true_iff]; omega
      | false =>
        symm; rw [decide_eq_false_iff_not]
        intro h'
        have : b < a := by omega
        rw [← Nat.blt_eq, h] at this
        cases this
theorem eqA_eq (a b : Int) : eqA a b = (a == b) := by
  cases a <;> cases b <;> unfold eqA
  · rename_i a b
    cases h : Nat.beq a b with
    | true => have := Nat.eq_of_beq_eq_true h; subst this; simp
    | false => have := Nat.ne_of_beq_eq_false h; show Nat.beq a b = _; rw [h]; symm; rw [beq_eq_false_iff_ne]; intro h'; cases h'; exact this rfl
  · symm; rw [beq_eq_false_iff_ne]; intro h'; cases h'
  · symm; rw [beq_eq_false_iff_ne]; intro h'; cases h'
  · rename_i a b
    cases h : Nat.beq a b with
    | true => have := Nat.eq_of_beq_eq_true h; subst this; simp
    | false => have := Nat.ne_of_beq_eq_false h; show Nat.beq a b = _; rw [h]; symm; rw [beq_eq_false_iff_ne]; intro h'; cases h'; exact this rfl
theorem bytesEq_eq : ∀ (a b : List UInt8), bytesEq a b = (a == b)
  | [], [] => rfl
  | [], _ :: _ => rfl
  | _ :: _, [] => rfl
  | a :: as, b :: bs => by
    unfold bytesEq
    rw [List.cons_beq_cons, bytesEq_eq as bs]
    cases h : Nat.beq a.toNat b.toNat with
    | true =>
      have : a = b := UInt8.toNat_inj.1 (Nat.eq_of_beq_eq_true h)
      subst this
      simp
    | false =>
      have h1 := Nat.ne_of_beq_eq_false h
      have : (a == b) = false := by rw [beq_eq_false_iff_ne]; rintro rfl; exact h1 rfl
      rw [this]
      rfl

theorem fastBin_run {op : BinOp} {x y v : Value} (h : fastBin op x y = some v) (P : Program) (t : TypeId) (a b : Operand) (w : World) :
    (do eqGuard op t a b x y; binOp op t x y : Sem Value).run P w = .ok v w ∧ plain v = true := by
  unfold fastBin at h
  split at h
  · rename_i k n
    split at h
    · rename_i l m
      cases hk : (k == l) with
      | false => rw [hk] at h; cases h
      | true =>
        rw [hk] at h
        have : k = l := by simpa using hk
        subst this
        simp only [cond_true] at h
        have hg : (eqGuard op t a b (.int k n) (.int k m)).run P w = .ok () w := by cases op <;> simp [eqGuard]
        unfold intBinA at h
        rw [Sem.run_bind, hg, Result.andThen_ok]
        split at h <;> first | (cases h; done) | skip
        all_goals (cases h; refine ⟨?_, rfl⟩)
        all_goals simp [binOp, Op.intArith, Op.intCmp, wrapA_eq, eqA_eq, ltA_eq]
        · cases h : n == m <;> simp_all
        · by_cases h : m < n
          · have : ¬ n ≤ m := by omega
            simp [h, this]
          · have : n ≤ m := by omega
            simp [h, this]
        · by_cases h : n < m
          · have : ¬ m ≤ n := by omega
            simp [h, this]
          · have : m ≤ n := by omega
            simp [h, this]
    · cases h
  · rename_i n
    split at h
    · rename_i m
      have hg : (eqGuard op t a b (.string n) (.string m)).run P w = .ok () w := by cases op <;> simp [eqGuard]
      rw [Sem.run_bind, hg, Result.andThen_ok]
      unfold strBinA at h
      split at h <;> first | (cases h; done) | skip
      all_goals (cases h; refine ⟨?_, rfl⟩)
      · show Result.ok (Value.bool (n.toList == m.toList)) w = _
        rw [bytesEq_eq, ByteArray.toList_eq, ByteArray.toList_eq]
      · show Result.ok (Value.bool (!(n.toList == m.toList))) w = _
        rw [bytesEq_eq, ByteArray.toList_eq, ByteArray.toList_eq]
    · cases h
  · cases h

theorem eqV_run {P : Program} {d : TypeDesc} {x y x' y' : Value} {b : Bool} (h : eqV d x y = some b) (hx : VR ρ x x') (hy : VR ρ y y') {t : TypeId} (ht : P.underlying t = some d) (w : World) : (Op.equal t x' y').run P w = .ok b w := by
  have key : ∀ n, (Op.equalIn (n + 1) t x' y').run P w = .ok b w := by
    intro n
    unfold eqV at h
    split at h
    · -- bool
      split at h <;> first | (cases h; done) | skip
      split at h <;> first | (cases h; done) | skip
      cases h
      rw [hx.bool, hy.bool]
      simp [Op.equalIn, run_underlying ht]
    · -- pointer
      split at h
      · have := hx.plain_eq rfl
        subst this
        split at h
        · cases h
          have := hy.plain_eq rfl
          subst this
          simp [Op.equalIn, run_underlying ht]
        · rename_i a
          cases h
          have h0 := hy.to0 (by simp) (by simp) (by simp)
          cases h0 with
          | same h1 => simp [plain1] at h1
          | ptr h1 => simp [Op.equalIn, run_underlying ht]
        · cases h
      · rename_i a
        split at h <;> first | (cases h; done) | skip
        cases h
        have := hy.plain_eq rfl
        subst this
        have h0 := hx.to0 (by simp) (by simp) (by simp)
        cases h0 with
        | same h1 => simp [plain1] at h1
        | ptr h1 => simp [Op.equalIn, run_underlying ht]
      · cases h
    · -- slice
      split at h
      · have := hx.plain_eq rfl
        subst this
        split at h
        · cases h
          have := hy.plain_eq rfl
          subst this
          simp [Op.equalIn, run_underlying ht]
        · rename_i a n c
          cases h
          have h0 := hy.to0 (by simp) (by simp) (by simp)
          cases h0 with
          | same h1 => simp [plain1] at h1
          | sliceK h1 => simp [Op.equalIn, run_underlying ht]
          | sliceU h1 _ _ => simp [Op.equalIn, run_underlying ht]
          | sliceE h1 => simp [Op.equalIn, run_underlying ht]
        · cases h
      · rename_i a n c
        split at h <;> first | (cases h; done) | skip
        cases h
        have := hy.plain_eq rfl
        subst this
        have h0 := hx.to0 (by simp) (by simp) (by simp)
        cases h0 with
        | same h1 => simp [plain1] at h1
        | sliceK h1 => simp [Op.equalIn, run_underlying ht]
        | sliceU h1 _ _ => simp [Op.equalIn, run_underlying ht]
        | sliceE h1 => simp [Op.equalIn, run_underlying ht]
      · cases h
    · -- func
      split at h
      · have := hx.plain_eq rfl
        subst this
        split at h
        · cases h
          have := hy.plain_eq rfl
          subst this
          simp [Op.equalIn, run_underlying ht]
        · rename_i f a c
          cases h
          have h0 := hy.to1 (by simp) (by simp)
          cases h0 with
          | base h1 => cases h1 with | same h2 => simp [Op.equalIn, run_underlying ht]
          | fn _ _ => simp [Op.equalIn, run_underlying ht]
          | yl _ => simp [Op.equalIn, run_underlying ht]
        · cases h
      · rename_i f a c
        split at h <;> first | (cases h; done) | skip
        cases h
        have := hy.plain_eq rfl
        subst this
        have h0 := hx.to1 (by simp) (by simp)
        cases h0 with
        | base h1 => cases h1 with | same h2 => simp [Op.equalIn, run_underlying ht]
        | fn _ _ => simp [Op.equalIn, run_underlying ht]
        | yl _ => simp [Op.equalIn, run_underlying ht]
      · cases h
    · cases h
  exact key 9999

theorem eqT_gives (ok : EnvOk E G) (r : Rel G B w0 ρ s.heap w) {op : BinOp} {t : TypeId} {x y x' y' v : Value} (h : eqT E op t x y = some v) (hx : VR ρ x x') (hy : VR ρ y y') (a b : Operand) :
    Gives G B w0 ρ s s v ((do eqGuard op t a b x' y'; binOp op t x' y' : Sem Value).run E.P w) := by
  unfold eqT at h
  split at h
  · rename_i d hd
    have ht := under?_ok ok hd
    split at h
    · rename_i q hq
      have hrun := eqV_run (P := E.P) hq hx hy ht w
      have hb : (binOp op t x' y').run E.P w = .ok v w ∧ plain v = true ∧ (eqGuard op t a b x' y').run E.P w = .ok () w := by
        have hform : binOp .eql t x' y' = (do pure (.bool (← Op.equal t x' y'))) ∧ binOp .neq t x' y' = (do pure (.bool (!(← Op.equal t x' y')))) ∧ (eqGuard op t a b x' y').run E.P w = .ok () w := by
          unfold eqV at hq
          split at hq
          · split at hq <;> first | (cases hq; done) | skip
            split at hq <;> first | (cases hq; done) | skip
            rw [hx.bool, hy.bool]
            exact ⟨rfl, rfl, by cases op <;> rfl⟩
          · have h1 : ∃ a, x' = .pointer a := by
              split at hq
              · exact ⟨_, hx.plain_eq rfl⟩
              · have h0 := hx.to0 (by simp) (by simp) (by simp)
                cases h0 <;> exact ⟨_, rfl⟩
              · cases hq
            obtain ⟨a1, rfl⟩ := h1
            have h2 : ∃ a, y' = .pointer a := by
              split at hq
              · split at hq
                · exact ⟨_, hy.plain_eq rfl⟩
                · have h0 := hy.to0 (by simp) (by simp) (by simp)
                  cases h0 <;> exact ⟨_, rfl⟩
                · cases hq
              · split at hq <;> first | (cases hq; done) | skip
                exact ⟨_, hy.plain_eq rfl⟩
              · cases hq
            obtain ⟨c, rfl⟩ := h2
            exact ⟨rfl, rfl, by cases op <;> rfl⟩
          · have h1 : ∃ a n c, x' = .slice a n c := by
              split at hq
              · exact ⟨_, _, _, hx.plain_eq rfl⟩
              · have h0 := hx.to0 (by simp) (by simp) (by simp)
                cases h0 <;> exact ⟨_, _, _, rfl⟩
              · cases hq
            obtain ⟨a1, n, c, rfl⟩ := h1
            have h2 : ∃ a n c, y' = .slice a n c := by
              split at hq
              · split at hq
                · exact ⟨_, _, _, hy.plain_eq rfl⟩
                · have h0 := hy.to0 (by simp) (by simp) (by simp)
                  cases h0 <;> exact ⟨_, _, _, rfl⟩
                · cases hq
              · split at hq <;> first | (cases hq; done) | skip
                exact ⟨_, _, _, hy.plain_eq rfl⟩
              · cases hq
            obtain ⟨a', n', c', rfl⟩ := h2
            exact ⟨rfl, rfl, by cases op <;> rfl⟩
          · have h1 : x' = .nilFunc ∨ ∃ f a c, x' = .func f a c := by
              split at hq
              · exact .inl (hx.plain_eq rfl)
              · have h0 := hx.to1 (by simp) (by simp)
                cases h0 with
                | base h1 => cases h1; exact .inr ⟨_, _, _, rfl⟩
                | fn _ _ => exact .inr ⟨_, _, _, rfl⟩
                | yl _ => exact .inr ⟨_, _, _, rfl⟩
              · cases hq
            have h2 : y' = .nilFunc ∨ ∃ f a c, y' = .func f a c := by
              split at hq
              · split at hq
                · exact .inl (hy.plain_eq rfl)
                · have h0 := hy.to1 (by simp) (by simp)
                  cases h0 with
                  | base h1 => cases h1; exact .inr ⟨_, _, _, rfl⟩
                  | fn _ _ => exact .inr ⟨_, _, _, rfl⟩
                  | yl _ => exact .inr ⟨_, _, _, rfl⟩
                · cases hq
              · split at hq <;> first | (cases hq; done) | skip
                exact .inl (hy.plain_eq rfl)
              · cases hq
            rcases h1 with rfl | ⟨_, _, _, rfl⟩ <;> rcases h2 with rfl | ⟨_, _, _, rfl⟩ <;> exact ⟨rfl, rfl, by cases op <;> rfl⟩
          · cases hq
        unfold eqNil at h
        split at h <;> first | (cases h; done) | skip
        · cases h; rw [hform.1]; exact ⟨by simp [hrun], rfl, hform.2.2⟩
        · cases h; rw [hform.2.1]; exact ⟨by simp [hrun], rfl, hform.2.2⟩
      refine Gives.same r (v' := v) ?_ rfl (VR.of_plain hb.2.1)
      rw [Sem.run_bind, hb.2.2, Result.andThen_ok]
      exact hb.1
    · cases h
  · cases h
end
end Go.Abs

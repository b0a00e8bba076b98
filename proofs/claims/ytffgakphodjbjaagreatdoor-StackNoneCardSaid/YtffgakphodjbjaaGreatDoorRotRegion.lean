/- Regions: in the text's order, and in any order that the edges allow. -/
import Derived.Test.YtffgakphodjbjaaGreatDoorRotCall
set_option linter.unusedVariables false
set_option linter.unusedSimpArgs false
namespace Go.Abs
open Go.RowKit

section
variable {E : Env} {G B : Nat} {w0 : World} {rd : Option Nat}

/-! ## In the text's order -/
theorem next_mono {α : Type} {m : M α} (hm : Framed m) {s s' : St} {v : α} (h : m s = .ok v s') : s.next ≤ s'.next := by
  obtain ⟨R, W, ft, _⟩ := hm s v s' h
  exact ft.nx

theorem aseq_sound (ok : EnvOk E G) {call : Cal → List Value → M Value} (hc : CallOk E G call) (hfc : ∀ g args, Framed (call g args)) {ops : Array Oper} (hop : ∀ o, o ∈ ops.toList → ∀ x, x ∈ o.op.operands.toList → opdOk G x = true) {QQ : Exit → Act → World → Prop} :
    ∀ (l : List Oper) (k : Nat), (∀ j, l[j]? = ops[k + j]?) → (∀ o, o ∈ l → o ∈ ops.toList) → ∀ {s s' : St} {f f' : Fr}, aseq E call ops.toList l f s = .ok f' s' → ∀ {ρ : Ren} {w : World} {a : Act}, Rel G B w0 ρ s.heap w → G ≤ s.next → Fresh ρ s.next s'.next → FrRel ρ f a →
      (∀ a' w' ρ', Ext ρ ρ' s.next s'.next → Rel G B w0 ρ' s'.heap w' → FrRel ρ' f' a' → QQ .normal a' w') → wpOpsIn (FR rd) 0 E.P ops QQ (List.range' k l.length) a w
  | [], k, _, _, s, s', f, f', h, ρ, w, a, r, hG, hf, hfr, hQ => by
    obtain ⟨rfl, rfl⟩ := pure_ok h
    exact hQ a w ρ (Ext.refl _ _ _) r hfr
  | o :: l, k, hl, hm, s, s', f, f', h, ρ, w, a, r, hG, hf, hfr, hQ => by
    obtain ⟨v, s1, h1, h2⟩ := bind_ok h
    have n1 := next_mono (framed_aoper hfc _ _ _) h1
    have n2 := next_mono (framed_aseq hfc _ _ _) h2
    have hi : ops[k]? = some o := by have := hl 0; simp at this; exact this.symm
    rw [List.length_cons, List.range'_succ, wpOpsIn_cons]
    refine aoper_step ok hc hi r hG (hf.left n2) hfr (hop o (hm o (by simp))) h1 fun v' w' ρ' e1 r1 hv => ?_
    refine aseq_sound ok hc hfc hop l (k + 1) (fun j => ?_) (fun o ho => hm o (by simp [ho])) h2 r1 (by omega) (hf.right n1 e1) ((hfr.mono e1.sub).put _ hv) fun a' w'' ρ'' e2 r2 f2 => hQ a' w'' ρ'' (e1.trans n1 n2 e2) r2 f2
    have := hl (j + 1)
    simp at this
    rw [this]
    congr 1
    omega

/-! ## An operation asks its operands alone -/
theorem plainA_congr {ρ ρ' : Operand → Value} {o : Oper} (hsel : ∀ cs b, o.op ≠ .select cs b) (h : ∀ x, x ∈ o.op.operands.toList → ρ x = ρ' x) : plainA E ρ o = plainA E ρ' o := by
  unfold plainA
  rw [execOp_congr hsel h]
  have : o.op.operands.toList.all (fun x => plain (ρ x)) = o.op.operands.toList.all (fun x => plain (ρ' x)) := by
    rw [Bool.eq_iff_iff, List.all_eq_true, List.all_eq_true]
    constructor
    · intro k x hx; rw [← h x hx]; exact k x hx
    · intro k x hx; rw [h x hx]; exact k x hx
  rw [this]

theorem aop_congr {call : Cal → List Value → M Value} {ρ ρ' : Operand → Value} {o : Oper} (h : ∀ x, x ∈ o.op.operands.toList → ρ x = ρ' x) : aop E call ρ o = aop E call ρ' o := by
  have hp : (∀ cs b, o.op ≠ .select cs b) → plainA E ρ o = plainA E ρ' o := fun hsel => plainA_congr hsel h
  have h' : ∀ x, x ∈ o.op.operands → ρ x = ρ' x := fun x hx => h x (by simpa using hx)
  unfold aop
  cases ho : o.op <;> rw [ho] at h' hp <;> simp only [Op.operands] at h' <;> dsimp only
  all_goals try (rw [hp (by simp)]; done)
  case move x => rw [h' x (by simp)]
  case assign x => rw [h' x (by simp)]
  case pick c a b => rw [h' c (by simp), h' a (by simp), h' b (by simp)]
  case box t x => rw [h' x (by simp)]
  case build t ps =>
    have : ps.toList.map (fun (p : Nat × Operand) => (p.1, ρ p.2)) = ps.toList.map (fun p => (p.1, ρ' p.2)) := List.map_congr_left fun p hp => by rw [h' p.2 (by simp; exact ⟨p.1, by simpa using hp⟩)]
    rw [this]
  case buildSlice t n ps =>
    have : ps.toList.map (fun (p : Nat × Operand) => (p.1, ρ p.2)) = ps.toList.map (fun p => (p.1, ρ' p.2)) := List.map_congr_left fun p hp => by rw [h' p.2 (by simp; exact ⟨p.1, by simpa using hp⟩)]
    rw [this]
  case load t a => rw [h' a (by simp)]
  case store t a v => rw [h' a (by simp), h' v (by simp)]
  case nilCheck x => rw [h' x (by simp)]
  case binOp op t x y u => rw [h' x (by simp), h' y (by simp), hp (by simp)]
  case convert a b x => rw [h' x (by simp)]
  case makeFunc f a b =>
    have e1 : a.toList.map ρ = a.toList.map ρ' := List.map_congr_left fun x hx => h' x (by simp; exact .inl (by simpa using hx))
    have e2 : b.toList.map ρ = b.toList.map ρ' := List.map_congr_left fun x hx => h' x (by simp; exact .inr (by simpa using hx))
    have e3 := hp (by simp)
    cases f <;> dsimp only <;> first | rw [e1, e2] | rw [e3]
  case makeSlice t a b => rw [h' a (by simp), h' b (by simp)]
  case slice t x l hi m => rw [h' x (by simp), optMap_congr (l := l) fun x hx => h' x (by simp [hx]), optMap_congr (l := hi) fun x hx => h' x (by simp [hx]), optMap_congr (l := m) fun x hx => h' x (by simp [hx])]
  case fieldAddr s x f => rw [h' x (by simp)]
  case field s x f => rw [h' x (by simp)]
  case indexAddr t x i => rw [h' x (by simp), h' i (by simp)]
  case index t x i => rw [h' x (by simp), h' i (by simp), hp (by simp)]
  case range t x => rw [h' x (by simp)]
  case next x b =>
    have e3 := hp (by simp)
    cases b <;> dsimp only
    · rw [e3]
    · rw [h' x (by simp)]
  case extract x i => rw [h' x (by simp)]
  case call c =>
    have e1 : c.args.toList.map ρ = c.args.toList.map ρ' := List.map_congr_left fun x hx => h' x (by
      unfold Call.operands
      exact Array.mem_append.2 (.inr (by simpa using hx)))
    rw [e1, hp (by simp)]
    cases hc : c.callee with
    | value f => dsimp only; rw [h' f (by unfold Call.operands; rw [hc]; simp)]
    | _ => rfl

/-! ## What precedes what -/
def stepBefore (acc : Array Nat) (o : Oper) : Nat := o.after.foldl (fun s e => if Region.binds .any e then s ||| 2 ^ e.on ||| acc.getD e.on 0 else s) 0

theorem stepBefore_bit {acc : Array Nat} {o : Oper} {k : Nat} (h : (stepBefore acc o).testBit k = true) : ∃ e, e ∈ o.after.toList ∧ Region.binds .any e = true ∧ (e.on = k ∨ (acc.getD e.on 0).testBit k = true) := by
  unfold stepBefore at h
  rw [← Array.foldl_toList] at h
  have gen : ∀ (l : List Edge) (s : Nat), (l.foldl (fun s e => if Region.binds .any e then s ||| 2 ^ e.on ||| acc.getD e.on 0 else s) s).testBit k = true →
      s.testBit k = true ∨ ∃ e, e ∈ l ∧ Region.binds .any e = true ∧ (e.on = k ∨ (acc.getD e.on 0).testBit k = true) := by
    intro l
    induction l with
    | nil => intro s h; exact .inl h
    | cons e l ih =>
      intro s h
      rw [List.foldl_cons] at h
      rcases ih _ h with h1 | ⟨e', h1, h2, h3⟩
      · cases hb : Region.binds .any e with
        | false => rw [hb] at h1; exact .inl h1
        | true =>
          rw [hb, if_pos rfl, Nat.testBit_or, Nat.testBit_or, Bool.or_eq_true, Bool.or_eq_true] at h1
          rcases h1 with (h1 | h1) | h1
          · exact .inl h1
          · rw [Nat.testBit_two_pow] at h1
            exact .inr ⟨e, by simp, hb, .inl (by simpa using h1)⟩
          · exact .inr ⟨e, by simp, hb, .inr h1⟩
      · exact .inr ⟨e', by simp [h1], h2, h3⟩
  rcases gen _ 0 h with h1 | h1
  · simp at h1
  · exact h1

theorem before_spec (ops : Array Oper) : ∀ (j k : Nat), ((Region.before ops).getD j 0).testBit k = true → ∃ o, ops[j]? = some o ∧ ∃ e, e ∈ o.after.toList ∧ Region.binds .any e = true ∧ (e.on = k ∨ ((Region.before ops).getD e.on 0).testBit k = true) := by
  have gen : ∀ (l : List Oper) (acc : Array Nat), (l.foldl (fun acc o => acc.push (stepBefore acc o)) acc).size = acc.size + l.length ∧
      (∀ i, i < acc.size → (l.foldl (fun acc o => acc.push (stepBefore acc o)) acc)[i]? = acc[i]?) ∧
      ∀ j o, l[j]? = some o → ∃ acc', (∀ i, i < acc'.size → (l.foldl (fun acc o => acc.push (stepBefore acc o)) acc)[i]? = acc'[i]?) ∧ (l.foldl (fun acc o => acc.push (stepBefore acc o)) acc)[acc.size + j]? = some (stepBefore acc' o) := by
    intro l
    induction l with
    | nil => intro acc; exact ⟨by simp, fun _ _ => rfl, fun j o h => by simp at h⟩
    | cons x l ih =>
      intro acc
      obtain ⟨h1, h2, h3⟩ := ih (acc.push (stepBefore acc x))
      rw [List.foldl_cons]
      refine ⟨by rw [h1]; simp; omega, fun i hi => ?_, fun j o hj => ?_⟩
      · rw [h2 i (by simp; omega), Array.getElem?_push, if_neg (by omega)]
      · cases j with
        | zero =>
          simp at hj
          subst hj
          refine ⟨acc, fun i hi => ?_, ?_⟩
          · rw [h2 i (by simp; omega), Array.getElem?_push, if_neg (by omega)]
          · rw [Nat.add_zero, h2 acc.size (by simp), Array.getElem?_push, if_pos rfl]
        | succ j =>
          simp at hj
          obtain ⟨acc', h4, h5⟩ := h3 j o hj
          refine ⟨acc', h4, ?_⟩
          rw [Array.size_push] at h5
          rw [show acc.size + (j + 1) = acc.size + 1 + j by omega]
          exact h5
  intro j k h
  have hbef : Region.before ops = ops.toList.foldl (fun acc o => acc.push (stepBefore acc o)) #[] := by
    unfold Region.before
    rw [← Array.foldl_toList]
    rfl
  obtain ⟨h1, h2, h3⟩ := gen ops.toList #[]
  rw [← hbef] at h1 h3
  have hj : j < ops.size := by
    rw [Array.getD_eq_getD_getElem?] at h
    cases hq : (Region.before ops)[j]? with
    | none => rw [hq] at h; simp at h
    | some q =>
      have := (Array.getElem?_eq_some_iff.1 hq).1
      rw [h1] at this
      simpa using this
  obtain ⟨acc', h4, h5⟩ := h3 j ops[j] (by simp [hj])
  simp at h5
  rw [Array.getD_eq_getD_getElem?, h5] at h
  simp only [Option.getD_some] at h
  obtain ⟨e, e1, e2, e3⟩ := stepBefore_bit h
  refine ⟨ops[j], by simp [hj], e, e1, e2, ?_⟩
  rcases e3 with e3 | e3
  · exact .inl e3
  · right
    rw [Array.getD_eq_getD_getElem?] at e3 ⊢
    cases hq : acc'[e.on]? with
    | none => rw [hq] at e3; simp at e3
    | some q =>
      have := (Array.getElem?_eq_some_iff.1 hq).1
      rw [h4 _ this, hq]
      rw [hq] at e3
      exact e3
end
end Go.Abs

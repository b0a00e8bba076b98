/- An operation in its frame; an operation that calls. -/
import Derived.Test.YtffgakphodjbjaaGreatDoorRotOp
import Derived.Orders
import Derived.OrdersIn
import Derived.AtR
import Derived.CallsIn
set_option linter.unusedVariables false
set_option linter.unusedSimpArgs false
namespace Go.Abs
open Go.RowKit

/-! ## Frames -/
/-- The mark of a loop over a function. -/
def MarkRel (ρ : Ren) (D : Nat) (d : Deferred) : Prop := ∃ l, ρ D = some l ∧ d = { target := .collected l.k, args := #[] }
structure FrRel (ρ : Ren) (f : Fr) (a : Act) : Prop where
  size : a.tmps.size = f.n
  small : f.n ≤ bound
  defers : All2 (MarkRel ρ) f.marks a.defers
  get : ∀ t, VR ρ (f.get t) (a.tmps.getD t undef)
theorem MarkRel.mono {ρ ρ' : Ren} {D : Nat} {d : Deferred} (h : MarkRel ρ D d) (hs : Sub ρ ρ') : MarkRel ρ' D d := let ⟨l, h1, h2⟩ := h; ⟨l, hs _ _ h1, h2⟩
theorem FrRel.mono {ρ ρ' : Ren} {f : Fr} {a : Act} (h : FrRel ρ f a) (hs : Sub ρ ρ') : FrRel ρ' f a := ⟨h.size, h.small, h.defers.mono fun _ _ m => m.mono hs, fun t => (h.get t).mono hs⟩
theorem FrRel.tm {ρ : Ren} {f : Fr} {a : Act} (h : FrRel ρ f a) : TmRel ρ f a.tmps := ⟨h.size, h.small, h.get⟩

theorem Fr.get_put {f : Fr} (hf : f.n ≤ bound) (dst : Option Tmp) (v : Value) (x : Nat) : (f.put dst v).get x = if dst = some x ∧ x < f.n then v else f.get x := by
  cases dst with
  | none => simp [Fr.put]
  | some d =>
    unfold Fr.put
    dsimp only
    cases hb : Nat.blt d f.n with
    | false =>
      have : ¬ d < f.n := by rw [← Nat.blt_eq, hb]; simp
      rw [cond_false, if_neg]
      rintro ⟨h1, h2⟩
      cases h1
      exact this h2
    | true =>
      rw [Nat.blt_eq] at hb
      have hbd : Nat.blt d bound = true := by rw [Nat.blt_eq]; omega
      rw [cond_true]
      unfold Fr.get
      dsimp only
      rw [T.get_set _ _ _ _ hbd]
      by_cases e : x = d
      · subst e; simp [hb]
      · rw [if_neg e, if_neg]
        rintro ⟨h1, _⟩
        cases h1
        exact e rfl
theorem Fr.n_put (f : Fr) (dst : Option Tmp) (v : Value) : (f.put dst v).n = f.n := by
  cases dst with
  | none => rfl
  | some d => unfold Fr.put; dsimp only; cases Nat.blt d f.n <;> rfl

theorem Fr.marks_put (f : Fr) (dst : Option Tmp) (v : Value) : (f.put dst v).marks = f.marks := by
  cases dst with
  | none => rfl
  | some d => unfold Fr.put; dsimp only; cases Nat.blt d f.n <;> rfl

theorem FrRel.put {ρ : Ren} {f : Fr} {a : Act} (h : FrRel ρ f a) (dst : Option Tmp) {v v' : Value} (hv : VR ρ v v') : FrRel ρ (f.put dst v) (a.put dst v') := by
  refine ⟨?_, by rw [Fr.n_put]; exact h.small, ?_, fun t => ?_⟩
  · rw [Fr.n_put, ← h.size]
    cases dst <;> simp [Act.put]
  · rw [Fr.marks_put]; cases dst <;> exact h.defers
  · rw [Fr.get_put h.small]
    cases dst with
    | none => simpa [Act.put] using h.get t
    | some d =>
      simp only [Act.put, Array.getD_eq_getD_getElem?, Array.getElem?_setIfInBounds]
      by_cases e : d = t
      · subst e
        by_cases hlt : d < f.n
        · rw [if_pos ⟨rfl, hlt⟩]
          have : d < a.tmps.size := by rw [h.size]; exact hlt
          simp [this]
          exact hv
        · rw [if_neg (fun hh => hlt hh.2)]
          have := h.get d
          have h2 : ¬ d < a.tmps.size := by rw [h.size]; exact hlt
          simpa [Array.getD_eq_getD_getElem?, h2] using this
      · rw [if_neg (fun hh => e (Option.some.inj hh.1))]
        have := h.get t
        simpa [Array.getD_eq_getD_getElem?, e] using this

theorem FrRel.eval {G B : Nat} {w0 w : World} {ρ : Ren} {h : T Blk} (r : Rel G B w0 ρ h w) {f : Fr} {a : Act} (hf : FrRel ρ f a) {x : Operand} (hx : opdOk G x = true) : VR ρ (f.eval x) (a.eval x) := by
  cases x with
  | tmp t => exact hf.get t
  | const v => exact VR.of_plain hx
  | global g =>
    have : g < G := by unfold opdOk at hx; rw [Nat.blt_eq] at hx; exact hx
    obtain ⟨l, h1, h2, h3⟩ := r.glob g this
    have := VR.of0 (.ptr (off := 0) h1)
    rw [h2, h3] at this
    exact this
  | func g => exact VR.of_plain rfl

/-! ## Guards -/
theorem VR.bool_inv {ρ : Ren} {v : Value} {b : Bool} (h : VR ρ v (.bool b)) : v = .bool b := by
  cases h with
  | base h =>
    cases h with
    | base h =>
      cases h with
      | base h => cases h with | same _ => rfl

theorem wanted_eq {ρ : Ren} {ops : Array Oper} {f : Fr} {a : Act} (hf : FrRel ρ f a) (o : Oper) : wantedA ops.toList f o = Region.wanted o (yielded ops a.tmps) := by
  unfold wantedA Region.wanted
  cases hg : o.guard with
  | none => rfl
  | some p =>
    obtain ⟨j, want⟩ := p
    dsimp only
    unfold yielded
    have e : ops.toList[j]? = ops[j]? := by simp
    rw [e]
    cases ho : ops[j]? with
    | none => rfl
    | some oj =>
      dsimp only [Option.bind_some]
      cases hd : oj.dst with
      | none => rfl
      | some d =>
        dsimp only [Option.bind_some]
        cases hb : Nat.blt d f.n with
        | false =>
          have : ¬ d < a.tmps.size := by rw [hf.size, ← Nat.blt_eq, hb]; simp
          rw [cond_false, Array.getElem?_eq_none (Nat.le_of_not_lt this)]
          rfl
        | true =>
          rw [Nat.blt_eq] at hb
          have hlt : d < a.tmps.size := by rw [hf.size]; exact hb
          rw [cond_true, Array.getElem?_eq_getElem hlt]
          have hv := hf.get d
          rw [Array.getD_eq_getD_getElem?, Array.getElem?_eq_getElem hlt] at hv
          simp only [Option.getD_some] at hv
          generalize hq : a.tmps[d] = q at hv
          cases hfd : f.get d with
          | bool b =>
            rw [hfd] at hv
            have := hv.bool
            subst this
            dsimp only
            cases b <;> cases want <;> rfl
          | _ =>
            all_goals
              dsimp only
              cases q with
              | bool b => rw [hv.bool_inv] at hfd; cases hfd
              | _ => rfl

/-! ## Calls -/
/-- The fence of a frame: none, but for the round that it may be of. -/
def FR (rd : Option Nat) : Fence := { Fence.wide with round := rd }
theorem calls_FR {rd : Option Nat} {n : Nat} {P : Program} {f : FuncId} {args : Array Value} {w : World} {R : Ending → World → Prop} (h : Calls P f args w R) : CallsIn (FR rd) n P f args w R :=
  ⟨trivial, fun cs _ => let ⟨e, w', fr, r, s, x⟩ := h cs; ⟨e, w', fr, r, comesIn_wide.2 s, x⟩⟩
theorem round_FR {rd : Option Nat} {n : Nat} {P : Program} {l : Nat} {f : FuncId} {tmps : Array Value} {assign body : Code} {w : World} {R : Ending → World → Prop} (h : RoundIn Fence.wide 0 P l f tmps assign body w R) : RoundIn (FR rd) n P l f tmps assign body w R :=
  ⟨trivial, fun c cs _ => h.2 c cs (room_wide _)⟩

/-- What a call hands over. -/
def Hands (G B : Nat) (w0 : World) (ρ : Ren) (s s' : St) (v : Value) (e : Ending) (w' : World) : Prop :=
  ∃ v' ρ', e = .returned v' ∧ Ext ρ ρ' s.next s'.next ∧ Rel G B w0 ρ' s'.heap w' ∧ VR ρ' v v'
/-- What is asked of the callees' reading. -/
structure CallOk (E : Env) (G : Nat) (call : Cal → List Value → M Value) : Prop where
  fn : ∀ (B : Nat) (w0 : World) (g : FuncId) (args : List Value) (s s' : St) (v : Value), call (.fn g) args s = .ok v s' → ∀ (ρ : Ren) (w : World) (args' : List Value), Rel G B w0 ρ s.heap w → G ≤ s.next → Fresh ρ s.next s'.next → All2 (VR ρ) args args' →
    Calls E.P g ⟨args'⟩ w (Hands G B w0 ρ s s' v)
  yl : ∀ (B : Nat) (w0 : World) (id : Nat) (args : List Value) (s s' : St) (v : Value), call (.yl id) args s = .ok v s' → ∀ (ρ : Ren) (w : World) (args' : List Value) (l : Pl), ρ id = some l → Rel G B w0 ρ s.heap w → G ≤ s.next → Fresh ρ s.next s'.next → All2 (VR ρ) args args' →
    ∃ fn tmps assign body, (Instr.yield l.k ⟨args'⟩).run E.P w = .ok (.round l.k fn tmps assign body) w ∧ RoundIn Fence.wide 0 E.P l.k fn tmps assign body w (Hands G B w0 ρ s s' v)

section
variable {E : Env} {G B : Nat} {w0 w : World} {ρ : Ren} {s s' : St} {rd : Option Nat}

theorem run_callFunc_in {P : Program} {f : FuncId} {fn : Func} {c : Code} (hf : P.funcs[f]? = some fn) (hname : (fn.name == "runtime.NumGoroutine") = false) (hb : fn.body = some c) (args : Array Value) (w : World) :
    (callFunc f args).run P w = .ok (.enter f args) w := by
  have h1 : fn.name ≠ "runtime.NumGoroutine" := by simpa using hname
  simp [callFunc, hf, h1, hb]

theorem all2_VR0 {as bs : List Value} (h : All2 (V0 ρ) as bs) : All2 (VR ρ) as bs := h.mono fun _ _ h => VR.of0 h

theorem callA_upon (ok : EnvOk E G) {call : Cal → List Value → M Value} (hc : CallOk E G call) {o : Oper} {a : Act} (r : Rel G B w0 ρ s.heap w) (hG : G ≤ s.next) (hf : Fresh ρ s.next s'.next) {fv fv' : Value} {args args' : List Value} (hfv : VR ρ fv fv') (ha : All2 (VR ρ) args args') {v : Value}
    (h : callA E call fv args s = .ok v s') {nxt : Act → World → Prop} {QQ : Exit → Act → World → Prop} (hn : ∀ v' w' ρ', Ext ρ ρ' s.next s'.next → Rel G B w0 ρ' s'.heap w' → VR ρ' v v' → nxt (a.put o.dst v') w') :
    o.uponIn (FR rd) 0 E.P a nxt QQ ((do let d ← Deferred.ofValue fv' ⟨args'⟩; invoke d.target d.args : Sem Next).run E.P w) := by
  unfold callA at h
  split at h
  · rename_i id
    obtain ⟨l, hl, rfl⟩ := hfv.yl
    obtain ⟨fn, tmps, assign, body, hy, hr⟩ := hc.yl B w0 id args s s' v h ρ w args' l hl r hG hf ha
    have hrun : (do let d ← Deferred.ofValue (Value.func (.yield l.k) #[] #[]) ⟨args'⟩; invoke d.target d.args : Sem Next) = Instr.yield l.k ⟨args'⟩ := by
      have e : (#[] ++ ⟨args'⟩ ++ #[] : Array Value) = ⟨args'⟩ := by apply Array.ext'; simp
      conv => rhs; rw [← e]
      rfl
    rw [hrun, hy, Oper.uponIn_round]
    refine ⟨fun h => (by cases h), ?_⟩
    refine (round_FR hr).mono ?_
    rintro e w' ⟨v', ρ', rfl, q1, q2, q3⟩
    exact hn v' w' ρ' q1 q2 q3
  · rename_i g first captured
    obtain ⟨as', bs', rfl, h1, h2⟩ := VR.func (as := first.toList) (bs := captured.toList) hfv
    have hall : All2 (VR ρ) (first.toList ++ args ++ captured.toList) (as' ++ args' ++ bs') := ((all2_VR0 h1).append ha).append (all2_VR0 h2)
    have hrun : (do let d ← Deferred.ofValue (Value.func (.func g) ⟨as'⟩ ⟨bs'⟩) ⟨args'⟩; invoke d.target d.args : Sem Next) = callFunc g ⟨as' ++ args' ++ bs'⟩ := by
      have e : (⟨as'⟩ ++ ⟨args'⟩ ++ ⟨bs'⟩ : Array Value) = ⟨as' ++ args' ++ bs'⟩ := by apply Array.ext'; simp
      rw [← e]
      rfl
    rw [hrun]
    generalize first.toList ++ args ++ captured.toList = la at h hall
    generalize as' ++ args' ++ bs' = lc at hall
    dsimp only at h
    generalize hfn : E.funcs.get g = qf at h
    split at h
    · cases h
    · rename_i fn
      obtain ⟨hP, hname⟩ := ok.funcs g fn hfn
      generalize hb : fn.body = qb at h
      split at h
      · rename_i c
        have := hc.fn B w0 g la s s' v h ρ w lc r hG hf hall
        rw [run_callFunc_in hP hname hb ⟨lc⟩ w, Oper.uponIn_enter]
        refine ⟨fun h => (by cases h), ?_⟩
        refine calls_FR (this.mono ?_)
        rintro e w' ⟨v', ρ', rfl, q1, q2, q3⟩
        exact hn v' w' ρ' q1 q2 q3
      · obtain ⟨hp, h3⟩ := cond_ok h
        generalize hvv : value? E.P (callFunc g ⟨la⟩) = qv at h3
        split at h3
        · rename_i u
          obtain ⟨hpu, h4⟩ := cond_ok h3
          obtain ⟨rfl, rfl⟩ := pure_ok h4
          have : lc = la := all2_plain_eq (ρ := ρ) (R := VR ρ) (p := plain) (fun _ _ h hp => VR.plain_eq h hp) hall hp
          subst this
          rw [value?_run _ hvv w, Oper.uponIn_value]
          exact hn _ w ρ (Ext.refl _ _ _) r (VR.of_plain hpu)
        · cases h3
  · cases h

theorem aop_nodefer {call : Cal → List Value → M Value} {ra : Operand → Value} {o : Oper} {v : Value} (h : aop E call ra o s = .ok v s') : ∀ c, o.op ≠ .defer c := by
  intro c e
  unfold aop at h
  rw [e] at h
  cases h

/-- Any operation in its frame. -/
theorem aop_upon (ok : EnvOk E G) {call : Cal → List Value → M Value} (hc : CallOk E G call) {f : Fr} {o : Oper} {a : Act} (r : Rel G B w0 ρ s.heap w) (hG : G ≤ s.next) (hf : Fresh ρ s.next s'.next) (hfr : FrRel ρ f a)
    (hop : ∀ x, x ∈ o.op.operands.toList → opdOk G x = true) {v : Value} (h : aop E call f.eval o s = .ok v s') {nxt : Act → World → Prop} {QQ : Exit → Act → World → Prop}
    (hn : ∀ v' w' ρ', Ext ρ ρ' s.next s'.next → Rel G B w0 ρ' s'.heap w' → VR ρ' v v' → nxt (a.put o.dst v') w') :
    o.wpIn (FR rd) 0 E.P a w nxt QQ := by
  refine ⟨fun _ _ => trivial, ?_⟩
  rw [Oper.semAt_eq _ _ _ (aop_nodefer h)]
  have hv : ∀ x, x ∈ o.op.operands.toList → VR ρ (f.eval x) (a.eval x) := fun x hx => hfr.eval r (hop x hx)
  by_cases hcall : ∃ c fo, o.op = .call c ∧ c.callee = .value fo
  · obtain ⟨c, fo, h1, h2⟩ := hcall
    have hexec : execOp a.eval o = (do let d ← Deferred.ofValue (a.eval fo) ⟨c.args.toList.map a.eval⟩; invoke d.target d.args : Sem Next) := by
      have q : c.args.map a.eval = ⟨c.args.toList.map a.eval⟩ := by apply Array.ext'; simp
      simp only [execOp, h1, resolve, h2, q]
    rw [hexec]
    unfold aop at h
    rw [h1] at h hv
    dsimp only at h
    rw [h2] at h
    simp only [Op.operands, Call.operands, h2] at hv
    exact callA_upon ok hc r hG hf (hv fo (by simp)) (all2_map c.args.toList fun x hx => hv x (by simp; exact .inr (by simpa using hx))) h hn
  · obtain ⟨nx, v', w', ρ', h1, h2, h3, h4, h5⟩ := aop_sound ok (call := call) (rc := a.eval) r hG hf hv (fun c fo e1 e2 => hcall ⟨c, fo, e1, e2⟩) h
    rw [h1]
    rcases h2 with rfl | ⟨rfl, rfl⟩
    · rw [Oper.uponIn_value]; exact hn v' w' ρ' h3 h4 h5
    · rw [Oper.uponIn_skip]; exact hn undef w' ρ' h3 h4 h5

/-- One step of a region. -/
theorem aoper_step (ok : EnvOk E G) {call : Cal → List Value → M Value} (hc : CallOk E G call) {ops : Array Oper} {f : Fr} {i : Nat} {o : Oper} (hi : ops[i]? = some o) {a : Act} (r : Rel G B w0 ρ s.heap w) (hG : G ≤ s.next) (hf : Fresh ρ s.next s'.next) (hfr : FrRel ρ f a)
    (hop : ∀ x, x ∈ o.op.operands.toList → opdOk G x = true) {v : Value} (h : aoper E call ops.toList f o s = .ok v s') {K : Act → World → Prop} {QQ : Exit → Act → World → Prop}
    (hn : ∀ v' w' ρ', Ext ρ ρ' s.next s'.next → Rel G B w0 ρ' s'.heap w' → VR ρ' v v' → K (a.put o.dst v') w') : wpOpIn (FR rd) 0 E.P ops QQ i K a w := by
  unfold wpOpIn
  rw [hi]
  dsimp only
  unfold aoper at h
  rw [wanted_eq hfr o] at h
  cases hw : Region.wanted o (yielded ops a.tmps) with
  | true =>
    rw [hw] at h
    rw [if_pos rfl]
    have h' : aop E call f.eval o s = .ok v s' := h
    exact aop_upon ok hc r hG hf hfr hop h' hn
  | false =>
    rw [hw] at h
    obtain ⟨rfl, rfl⟩ := pure_ok (show M.pure _ s = _ from h)
    rw [if_neg (by simp)]
    exact ⟨fun _ _ => trivial, hn undef w ρ (Ext.refl _ _ _) r VR.undef⟩
end
end Go.Abs

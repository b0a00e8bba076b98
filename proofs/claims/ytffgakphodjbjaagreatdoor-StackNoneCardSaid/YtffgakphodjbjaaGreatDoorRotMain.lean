/- Code and calls: what the evaluator reads is what the model does. -/
import Derived.Test.YtffgakphodjbjaaGreatDoorRotObj
import Derived.LoopNIn
import Derived.Scope
import Derived.RangeFuncLeaves
set_option linter.unusedVariables false
set_option linter.unusedSimpArgs false
namespace Go.Abs
open Go.RowKit

theorem opsOk_ok {G : Nat} {ops : Array Oper} (h : opsOk G ops = true) : ∀ o, o ∈ ops.toList → ∀ x, x ∈ o.op.operands.toList → opdOk G x = true :=
  fun o ho x hx => List.all_eq_true.1 (List.all_eq_true.1 h o ho) x hx

theorem quiet_clash {ls : List (List Nat × List Nat)} (h : quietLogs ls = true) {i j : Nat} {p q : List Nat × List Nat} (hi : ls[i]? = some p) (hj : ls[j]? = some q) : clash q p = false := by
  have e : ∀ (k : Nat) r, ls[k]? = some r → r.2 = [] := by
    intro k r hk
    have := List.all_eq_true.1 h r (List.mem_of_getElem? hk)
    cases hr : r.2 with
    | nil => rfl
    | cons a b => rw [hr] at this; cases this
  unfold clash
  rw [e j q hj, e i p hi]
  rfl

section
variable {E : Env} {G B : Nat} {w0 : World} {rd : Option Nat}

theorem Rel.ext {ρ : Ren} {h h' : T Blk} {w : World} (r : Rel G B w0 ρ h w) (e : ∀ id, h.get id = h'.get id) : Rel G B w0 ρ h' w := r.congr fun id => (e id).symm
theorem FrRel.ext {ρ : Ren} {f g : Fr} {a : Act} (h : FrRel ρ g a) (hn : g.n = f.n) (hm : g.marks = f.marks) (e : ∀ x, g.get x = f.get x) : FrRel ρ f a :=
  ⟨by rw [← hn]; exact h.size, by rw [← hn]; exact h.small, by rw [← hm]; exact h.defers, fun t => by rw [← e]; exact h.get t⟩

theorem aregion_sound (ok : EnvOk E G) (hm : E.P.follows .mixedOrders = true) {call : Cal → List Value → M Value} (hc : CallOk E G call) (hfc : ∀ g args, Framed (call g args)) {ops : Array Oper} {draw : Bool} (hop : opsOk G ops = true) (hd : draw = true → drawOk ops = true)
    {s s' : St} {f f' : Fr} (h : aregion E call ops draw f s = .ok f' s') {ρ : Ren} {w : World} {a : Act} (r : Rel G B w0 ρ s.heap w) (hG : G ≤ s.next) (hf : Fresh ρ s.next s'.next) (hfr : FrRel ρ f a) {QQ : Exit → Act → World → Prop}
    (hQ : ∀ a' w' ρ', Ext ρ ρ' s.next s'.next → Rel G B w0 ρ' s'.heap w' → FrRel ρ' f' a' → QQ .normal a' w') (id : Nat) : (Code.region id ops draw).wpIn (FR rd) 0 E.P QQ a w := by
  cases draw with
  | false =>
    refine wpIn_region ?_
    have := aseq_sound (rd := rd) (QQ := QQ) ok hc hfc (opsOk_ok hop) ops.toList 0 (fun j => by simp) (fun o ho => ho) (show aseq E call ops.toList ops.toList f s = .ok f' s' from h) r hG hf hfr hQ
    rw [List.range_eq_range']
    simpa using this
  | true =>
    obtain ⟨⟨f1, ls⟩, s1, h1, h2⟩ := bind_ok (show M.bind _ _ s = _ from h)
    obtain ⟨hcond, h3⟩ := cond_ok h2
    obtain ⟨rfl, rfl⟩ := pure_ok h3
    obtain ⟨F, S, V, e1, e2, e3, e4, L⟩ := lex_of hfc ops.toList ops.toList h1
    have en : ops.toList.length = ops.size := by simp
    rw [en] at e3 e4
    refine wpIn_region_any hm ?_
    have hcl : ∀ i j p q, i < j → ls[i]? = some p → ls[j]? = some q → clash q p = true → ((Region.before ops).getD j 0).testBit i = true := by
      intro i j p q hij hi hj hcl
      rcases Bool.or_eq_true_iff.1 hcond with hq | ho
      · rw [quiet_clash hq hi hj] at hcl; cases hcl
      · obtain ⟨b, hb, hget⟩ := orderOk_get ho j q hj
        have : (Region.before ops).getD j 0 = b := by
          rw [Array.getD_eq_getD_getElem?]
          have hb' : (Region.before ops)[j]? = some b := by simpa using hb
          rw [hb']
          rfl
        rw [this]
        refine hget i p ?_ hcl
        rw [List.nil_append, List.getElem?_take_of_lt hij]
        exact hi
    refine any_sound (G := G) (B := B) (w0 := w0) ok hc (opsOk_ok hop) (hd rfl) L (by rw [e1]; exact hfr.small) hcl (by rw [e2]; exact hG) (ρ0 := ρ) (QQ := QQ)
      (fun a' w' ρ' g hh q1 q2 q3 q4 q7 q5 q6 => hQ a' w' ρ' ?_ ?_ ?_) ops.size _ f s.heap ρ w.drew a ?_ ?_
    · rw [e2, e4] at q1; exact q1
    · rw [e4] at q6; exact q2.ext q6
    · have hFn : ∀ k, k ≤ ops.size → (F k).n = (F 0).n := by
        intro k
        induction k with
        | zero => intro _; rfl
        | succ k ih =>
          intro hk
          rw [L.put k ops[k] (by simp [show k < ops.size by omega]), Fr.n_put, ih (by omega)]
      have hFm : ∀ k, k ≤ ops.size → (F k).marks = (F 0).marks := by
        intro k
        induction k with
        | zero => intro _; rfl
        | succ k ih =>
          intro hk
          rw [L.put k ops[k] (by simp [show k < ops.size by omega]), Fr.marks_put, ih (by omega)]
      have hn' := hFn ops.size (Nat.le_refl _)
      have hm' := hFm ops.size (Nat.le_refl _)
      rw [e3] at q5 hn' hm'
      exact q3.ext (by rw [q4, hn']) (by rw [q7, hm']) q5
    · have hno : ∀ k, ¬ Dn (Array.replicate ops.size false) k := by
        intro k hk
        unfold Dn at hk
        rw [Array.getD_eq_getD_getElem?, Array.getElem?_replicate] at hk
        split at hk <;> cases hk
      refine ⟨by simp, fun j _ hj => absurd hj (hno j), by rw [e1], by rw [e1], fun x _ => ⟨0, .inl ⟨rfl, fun k _ hk => absurd hk (hno k)⟩, by rw [e1]⟩, fun x _ => by rw [e1], fun id => ⟨0, .inl ⟨rfl, fun k _ hk => absurd hk (hno k)⟩, by rw [e2]⟩, r.drew, hfr, Ext.refl _ _ _, fun k hk _ => ?_⟩
      have m1 := mono_next (S := S) (n := ops.size) (fun i hi => L.mono i (by simpa using hi)) k 0 (by omega)
      have m2 := mono_next (S := S) (n := ops.size) (fun i hi => L.mono i (by simpa using hi)) (ops.size - (k + 1)) (k + 1) (by omega)
      rw [Nat.zero_add] at m1
      rw [show k + 1 + (ops.size - (k + 1)) = ops.size by omega] at m2
      rw [e2] at m1
      rw [e4] at m2
      exact fun id h1 h2 => hf id (Nat.le_trans m1 h1) (Nat.lt_of_lt_of_le h2 m2)
    · rw [Array.toList_replicate, List.count_replicate]
      simp

def exOf : Ex → Exit
  | .normal => .normal
  | .exit id => .exit id
  | .ret => .ret

theorem acode_sound (ok : EnvOk E G) (hm : E.P.follows .mixedOrders = true) {call : Cal → List Value → M Value} (hc : CallOk E G call) (hfc : ∀ g args, Framed (call g args)) (N : Nat) (c : Code) :
    ∀ {s s' : St} {f : Fr} {ef : Ex × Fr}, codeOk G c = true → acode E call rd.isSome N c f s = .ok ef s' → ∀ {ρ : Ren} {w : World} {a : Act}, Rel G B w0 ρ s.heap w → G ≤ s.next → Fresh ρ s.next s'.next → FrRel ρ f a → ∀ {QQ : Exit → Act → World → Prop},
      (∀ a' w' ρ', Ext ρ ρ' s.next s'.next → Rel G B w0 ρ' s'.heap w' → FrRel ρ' ef.2 a' → QQ (exOf ef.1) a' w') → c.wpIn (FR rd) 0 E.P QQ a w := by
  have fr := fun c f => framed_acode (E := E) hfc rd.isSome N c f
  induction c with
  | skip =>
    intro s s' f ef _ h ρ w a r hG hf hfr QQ hQ
    obtain ⟨rfl, rfl⟩ := pure_ok h
    exact wpIn_skip (hQ a w ρ (Ext.refl _ _ _) r hfr)
  | label l =>
    intro s s' f ef _ h ρ w a r hG hf hfr QQ hQ
    obtain ⟨rfl, rfl⟩ := pure_ok h
    exact wpIn_label (hQ a w ρ (Ext.refl _ _ _) r hfr)
  | exit l =>
    intro s s' f ef _ h ρ w a r hG hf hfr QQ hQ
    obtain ⟨rfl, rfl⟩ := pure_ok h
    exact wpIn_exit (hQ a w ρ (Ext.refl _ _ _) r hfr)
  | ret =>
    intro s s' f ef _ h ρ w a r hG hf hfr QQ hQ
    obtain ⟨rfl, rfl⟩ := pure_ok h
    exact wpIn_ret (hQ a w ρ (Ext.refl _ _ _) r hfr)
  | region id ops draw =>
    intro s s' f ef hk h ρ w a r hG hf hfr QQ hQ
    simp only [codeOk, Bool.and_eq_true] at hk
    obtain ⟨f1, s1, h1, h2⟩ := bind_ok h
    obtain ⟨rfl, rfl⟩ := pure_ok h2
    refine aregion_sound ok hm hc hfc hk.1 (fun e => ?_) h1 r hG hf hfr hQ id
    subst e
    simpa using hk.2
  | seq x y ihx ihy =>
    intro s s' f ef hk h ρ w a r hG hf hfr QQ hQ
    simp only [codeOk, Bool.and_eq_true] at hk
    obtain ⟨e1, s1, h1, h2⟩ := bind_ok h
    have n1 := next_mono (fr x f) h1
    cases hx : e1.1 with
    | normal =>
      rw [hx] at h2
      have n2 := next_mono (fr y e1.2) h2
      refine wpIn_seq (ihx hk.1 h1 r hG (hf.left n2) hfr fun a1 w1 ρ1 q1 r1 f1 => ?_)
      rw [hx]
      exact ihy hk.2 h2 r1 (by omega) (hf.right n1 q1) f1 fun a2 w2 ρ2 q2 r2 f2 => hQ a2 w2 ρ2 (q1.trans n1 n2 q2) r2 f2
    | exit i =>
      rw [hx] at h2
      obtain ⟨rfl, rfl⟩ := pure_ok (show M.pure _ s1 = _ from h2)
      refine wpIn_seq (ihx hk.1 h1 r hG hf hfr fun a1 w1 ρ1 q1 r1 f1 => ?_)
      have := hQ a1 w1 ρ1 q1 r1 f1
      rw [hx] at this ⊢
      exact this
    | ret =>
      rw [hx] at h2
      obtain ⟨rfl, rfl⟩ := pure_ok (show M.pure _ s1 = _ from h2)
      refine wpIn_seq (ihx hk.1 h1 r hG hf hfr fun a1 w1 ρ1 q1 r1 f1 => ?_)
      have := hQ a1 w1 ρ1 q1 r1 f1
      rw [hx] at this ⊢
      exact this
  | cond c x y ihx ihy =>
    intro s s' f ef hk h ρ w a r hG hf hfr QQ hQ
    simp only [codeOk, Bool.and_eq_true] at hk
    have hv := hfr.eval r hk.1
    unfold acode at h
    generalize hq : f.eval c = q at h hv
    split at h
    · rename_i b
      have hb := hv.bool
      cases b with
      | true => exact wpIn_cond_true hb (ihx hk.2.1 h r hG hf hfr hQ)
      | false => exact wpIn_cond_false hb (ihy hk.2.2 h r hG hf hfr hQ)
    · cases h
  | block id x ih =>
    intro s s' f ef hk h ρ w a r hG hf hfr QQ hQ
    obtain ⟨e1, s1, h1, h2⟩ := bind_ok h
    cases hx : e1.1 with
    | normal =>
      rw [hx] at h2
      obtain ⟨rfl, rfl⟩ := pure_ok (show M.pure _ s1 = _ from h2)
      refine wpIn_block (ih hk h1 r hG hf hfr fun a1 w1 ρ1 q1 r1 f1 => ?_)
      have := hQ a1 w1 ρ1 q1 r1 f1
      rw [hx] at this ⊢
      exact this
    | ret =>
      rw [hx] at h2
      obtain ⟨rfl, rfl⟩ := pure_ok (show M.pure _ s1 = _ from h2)
      refine wpIn_block (ih hk h1 r hG hf hfr fun a1 w1 ρ1 q1 r1 f1 => ?_)
      have := hQ a1 w1 ρ1 q1 r1 f1
      rw [hx] at this ⊢
      exact this
    | exit i =>
      rw [hx] at h2
      dsimp only at h2
      cases hb : Nat.beq i id with
      | true =>
        rw [hb] at h2
        obtain ⟨rfl, rfl⟩ := pure_ok (show M.pure _ s1 = _ from h2)
        have e := Nat.eq_of_beq_eq_true hb
        subst e
        refine wpIn_block (ih hk h1 r hG hf hfr fun a1 w1 ρ1 q1 r1 f1 => ?_)
        rw [hx]
        show (if i = i then _ else _)
        rw [if_pos rfl]
        exact hQ a1 w1 ρ1 q1 r1 f1
      | false =>
        rw [hb] at h2
        obtain ⟨rfl, rfl⟩ := pure_ok (show M.pure _ s1 = _ from h2)
        have e := Nat.ne_of_beq_eq_false hb
        refine wpIn_block (ih hk h1 r hG hf hfr fun a1 w1 ρ1 q1 r1 f1 => ?_)
        have := hQ a1 w1 ρ1 q1 r1 f1
        rw [hx] at this ⊢
        show (if i = id then _ else _)
        rw [if_neg e]
        exact this
  | loop x ih =>
    intro s s' f ef hk h ρ w a r hG hf hfr QQ hQ
    have key : ∀ (n : Nat) {s : St} {f : Fr} {ρ1 : Ren} {w : World} {a : Act}, aloop (acode E call rd.isSome N x) n f s = .ok ef s' → Rel G B w0 ρ1 s.heap w → G ≤ s.next → Fresh ρ1 s.next s'.next → FrRel ρ1 f a →
        (∀ a' w' ρ', Ext ρ1 ρ' s.next s'.next → Rel G B w0 ρ' s'.heap w' → FrRel ρ' ef.2 a' → QQ (exOf ef.1) a' w') → Code.roundsIn (FR rd) 0 E.P x QQ n a w := by
      intro n
      induction n with
      | zero => intro s f ρ1 w a h; cases h
      | succ n ihn =>
        intro s f ρ1 w a h r hG hf hfr hQ
        obtain ⟨e1, s1, h1, h2⟩ := bind_ok h
        have n1 := next_mono (fr x f) h1
        rw [roundsIn_succ]
        cases hx : e1.1 with
        | normal =>
          rw [hx] at h2
          have n2 := next_mono (framed_aloop (fr x) n e1.2) h2
          refine ih hk h1 r hG (hf.left n2) hfr fun a1 w1 ρ2 q1 r1 f1 => ?_
          rw [hx]
          exact ihn h2 r1 (by omega) (hf.right n1 q1) f1 fun a2 w2 ρ3 q2 r2 f2 => hQ a2 w2 ρ3 (q1.trans n1 n2 q2) r2 f2
        | exit i =>
          rw [hx] at h2
          obtain ⟨rfl, rfl⟩ := pure_ok (show M.pure _ s1 = _ from h2)
          refine ih hk h1 r hG hf hfr fun a1 w1 ρ2 q1 r1 f1 => ?_
          have := hQ a1 w1 ρ2 q1 r1 f1
          rw [hx] at this ⊢
          exact this
        | ret =>
          rw [hx] at h2
          obtain ⟨rfl, rfl⟩ := pure_ok (show M.pure _ s1 = _ from h2)
          refine ih hk h1 r hG hf hfr fun a1 w1 ρ2 q1 r1 f1 => ?_
          have := hQ a1 w1 ρ2 q1 r1 f1
          rw [hx] at this ⊢
          exact this
    exact wpIn_loop_rounds N (key N h r hG hf hfr hQ)
  | scope x ih =>
    intro s s' f ef hk h ρ w a r hG hf hfr QQ hQ
    cases hrd : rd with
    | some l => rw [hrd] at h; cases h
    | none =>
      have h : acode E call rd.isSome N x f s = .ok ef s' := by rw [hrd] at h ⊢; exact h
      show (Code.scope x).wpIn Fence.wide 0 E.P QQ a w
      rw [wpIn_wide]
      refine wp_scope_straight ?_
      rw [← wpIn_wide (n := 0)]
      have hih := @ih s s' f ef hk h ρ w a r hG hf hfr
      rw [hrd] at hih
      refine hih fun a1 w1 ρ1 q1 r1 f1 => ?_
      have := hQ a1 w1 ρ1 q1 r1 f1
      cases hx : ef.1 <;> rw [hx] at this <;> exact this
  | rangeFunc g ps assign body _ _ =>
    intro s s' f ef hk h ρ w a r hG hf hfr QQ hQ
    cases hrd : rd with
    | some l => rw [hrd] at h; cases h
    | none =>
      rw [hrd] at h
      exact arange_sound ok hc hfc hk h r hG hf hfr fun a1 w1 ρ1 q1 r1 f1 x hx => by
        have := hQ a1 w1 ρ1 q1 r1 f1
        cases he : ef.1 <;> rw [he] at this hx <;> rw [hx] <;> exact this
  | _ =>
    intro s s' f ef _ h
    cases h

end
end Go.Abs

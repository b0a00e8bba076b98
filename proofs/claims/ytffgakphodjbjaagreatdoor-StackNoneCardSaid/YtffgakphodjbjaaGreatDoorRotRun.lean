/- A call: what the evaluator reads of a call is what the model's call does. -/
import Derived.Test.YtffgakphodjbjaaGreatDoorRotMain
set_option linter.unusedVariables false
set_option linter.unusedSimpArgs false
namespace Go.Abs
open Go.RowKit
section
variable {E : Env} {G B : Nat} {w0 : World}

/-! ## Calls -/
theorem setArgs_get : ∀ (vs : List Value) (t : T Value) (i x : Nat), i + vs.length ≤ bound → (setArgs t i vs).get x = if i ≤ x ∧ x < i + vs.length then vs[x - i]? else t.get x
  | [], t, i, x, _ => by
    unfold setArgs
    rw [if_neg (by rintro ⟨h1, h2⟩; simp at h2; omega)]
  | v :: vs, t, i, x, h => by
    unfold setArgs
    have hb : Nat.blt i bound = true := by rw [Nat.blt_eq]; simp at h; omega
    rw [setArgs_get vs _ (i + 1) x (by simp at h; omega), T.get_set _ _ _ _ hb]
    by_cases h1 : i + 1 ≤ x ∧ x < i + 1 + vs.length
    · rw [if_pos h1, if_pos (by simp; omega)]
      rw [show x - i = (x - (i + 1)) + 1 by omega]
      simp
    · rw [if_neg h1]
      by_cases h2 : x = i
      · subst h2
        rw [if_pos rfl, if_pos (by simp)]
        simp
      · rw [if_neg h2, if_neg (by simp; omega)]

theorem enter_fr {ρ : Ren} {args args' : List Value} (ha : All2 (VR ρ) args args') (ntmps : Nat) (hb : Nat.blt (args.length + (ntmps - args.length)) bound = true) :
    FrRel ρ { tm := setArgs .nil 0 args, n := args.length + (ntmps - args.length), marks := [] } { tmps := (⟨args'⟩ : Array Value) ++ Array.replicate (ntmps - (⟨args'⟩ : Array Value).size) undef, defers := [] } := by
  rw [Nat.blt_eq] at hb
  have hl := ha.length
  refine ⟨?_, by dsimp only; omega, .nil, fun t => ?_⟩
  · simp [hl]
  · unfold Fr.get
    dsimp only
    rw [setArgs_get args _ 0 t (by omega), T.get_nil]
    rw [Array.getD_eq_getD_getElem?]
    by_cases h1 : t < args.length
    · rw [if_pos (by omega), Nat.sub_zero, List.getElem?_eq_getElem h1]
      obtain ⟨v', h2, h3⟩ := ha.get t _ (List.getElem?_eq_getElem h1)
      have h4 : t < (⟨args'⟩ : Array Value).size := by simp; omega
      rw [Array.getElem?_append_left h4]
      have : (⟨args'⟩ : Array Value)[t]? = some v' := by simpa using h2
      rw [this]
      exact h3
    · rw [if_neg (by omega)]
      have h4 : (⟨args'⟩ : Array Value).size ≤ t := by simp; omega
      rw [Array.getElem?_append_right h4, Array.getElem?_replicate]
      have hu : ∀ (b : Prop) [Decidable b], (if b then some undef else none : Option Value).getD undef = undef := by
        intro b _
        by_cases hb : b
        · rw [if_pos hb]; rfl
        · rw [if_neg hb]; rfl
      rw [hu]
      exact VR.undef


/-- The body of every function of the table is readable; the oracles hold. -/
structure RunOk (E : Env) (G : Nat) : Prop where
  env : EnvOk E G
  glob : E.glob = G
  mixed : E.P.follows .mixedOrders = true
  codes : ∀ g f c, E.funcs.get g = some f → f.body = some c → codeOk G c = true
  orcs : ∀ g h, E.orc g = some h → ∀ args, Framed (h args)
  orc : ∀ g h, E.orc g = some h → ∀ (B : Nat) (w0 : World) (args : List Value) (s s' : St) (v : Value), h args s = .ok v s' → ∀ (ρ : Ren) (w : World) (args' : List Value), Rel G B w0 ρ s.heap w → G ≤ s.next → Fresh ρ s.next s'.next → All2 (VR ρ) args args' →
    Calls E.P g ⟨args'⟩ w (Hands G B w0 ρ s s' v)

theorem loadA_ok (ok : EnvOk E G) {t : TypeId} {i : TI} {info : TypeInfo} {z : Value} (T : TiOk E.P t i info z) {ρ : Ren} {w : World} {s s' : St} (r : Rel G B w0 ρ s.heap w) {x x' v : Value} (hx : VR ρ x x') (h : loadA i x s = .ok v s') :
    s'.heap = s.heap ∧ s'.next = s.next ∧ ∃ ad v', x' = .pointer (some ad) ∧ (loadVar t ad).run E.P w = .ok v' w ∧ VR ρ v v' := by
  unfold loadA at h
  split at h
  · rename_i id off
    obtain ⟨l, hl, rfl⟩ := hx.ptr
    cases hag : i.isAgg with
    | true =>
      rw [hag] at h
      obtain ⟨c, s1, h1, h2⟩ := bind_ok (show M.bind _ _ s = _ from h)
      obtain ⟨cs, es, own, old, par, hg, hw, he, hn⟩ := readAt_ok h1
      obtain ⟨rfl, rfl⟩ := pure_ok h2
      obtain ⟨ys, ha, hlen, hc⟩ := r.reads hg hl hw
      refine ⟨he, hn, _, .agg ⟨ys⟩, rfl, ?_, .base (.agg ha)⟩
      have := run_loadCells_at E.P w l.k (l.d + off) ys hc
      rw [hlen] at this
      simp [loadVar, T.run_agg, hag, T.run_size, this]
    | false =>
      rw [hag] at h
      obtain ⟨cs, es, own, old, par, hg, hw, he, hn⟩ := readOne_ok (show readOne id off s = _ from h)
      obtain ⟨l', cr⟩ := r.blk id _ hg
      have : l' = l := by have := cr.at_; rw [hl] at this; cases this; rfl
      subst this
      obtain ⟨v', h1, h2⟩ := cr.val _ _ hw
      refine ⟨he, hn, _, v', rfl, ?_, VR.of1 h2⟩
      simp [loadVar, T.run_agg, hag, h1]
  · cases h

theorem aresults_ok (ok : EnvOk E G) {f : Fr} {a : Act} {ρ : Ren} {w : World} (hfr : FrRel ρ f a) : ∀ (l : List ResultVar) {s s' : St} {vs : List Value}, Rel G B w0 ρ s.heap w → aresults E f l s = .ok vs s' →
    s'.heap = s.heap ∧ s'.next = s.next ∧ ∃ vs', (l.mapM (fun (x : ResultVar) => (match x with
      | .tmp t => pure (a.tmps.getD t undef)
      | .cell q t => do loadVar t (← asAddr (a.tmps.getD q undef)) : Sem Value))).run E.P w = .ok vs' w ∧ All2 (VR ρ) vs vs'
  | [], s, s', vs, r, h => by
    obtain ⟨rfl, rfl⟩ := pure_ok h
    exact ⟨rfl, rfl, [], by simp, .nil⟩
  | x :: l, s, s', vs, r, h => by
    obtain ⟨v, s1, h1, h2⟩ := bind_ok h
    obtain ⟨vs1, s2, h3, h4⟩ := bind_ok h2
    obtain ⟨rfl, rfl⟩ := pure_ok h4
    cases x with
    | tmp t =>
      obtain ⟨rfl, rfl⟩ := pure_ok h1
      obtain ⟨e1, e2, vs', g1, g2⟩ := aresults_ok ok hfr l r h3
      refine ⟨e1, e2, a.tmps.getD t undef :: vs', ?_, .cons (hfr.get t) g2⟩
      rw [List.mapM_cons]
      simp only [Sem.run_bind, Sem.run_pure, Result.andThen_ok, g1]
    | cell q t =>
      obtain ⟨i, s3, k1, k2⟩ := bind_ok h1
      obtain ⟨rfl, info, z, T⟩ := tinfo_ok ok k1
      obtain ⟨q1, q2, ad, v', q3, q4, q5⟩ := loadA_ok ok T r (hfr.get q) k2
      obtain ⟨e1, e2, vs', g1, g2⟩ := aresults_ok ok hfr l (s := s1) (by rw [q1]; exact r) h3
      refine ⟨e1.trans q1, e2.trans q2, v' :: vs', ?_, .cons q5 g2⟩
      rw [List.mapM_cons]
      simp only [Sem.run_bind, q3]
      have e3 : (asAddr (.pointer (some ad))).run E.P w = .ok ad w := by simp [asAddr]
      rw [e3]
      simp only [Result.andThen_ok, q4, Sem.run_pure]
      rw [g1]
      rfl

theorem packA_ok {ρ : Ren} {vs vs' : List Value} (h : All2 (VR ρ) vs vs') {s s' : St} {v : Value} (hp : packA vs s = .ok v s') :
    s' = s ∧ VR ρ v (if h : (⟨vs'⟩ : Array Value).size = 1 then (⟨vs'⟩ : Array Value)[0] else .tuple ⟨vs'⟩) := by
  unfold packA at hp
  split at hp
  · rename_i x
    obtain ⟨rfl, rfl⟩ := pure_ok hp
    cases h with
    | cons h1 h2 =>
      cases h2
      exact ⟨rfl, h1⟩
  · rename_i hne
    obtain ⟨hc, hp⟩ := cond_ok hp
    obtain ⟨rfl, rfl⟩ := pure_ok hp
    refine ⟨rfl, ?_⟩
    have hl := h.length
    have hn : ¬ (⟨vs'⟩ : Array Value).size = 1 := by
      intro e
      have e : vs'.length = 1 := by simpa using e
      rw [← hl] at e
      match vs, e, hne with
      | [x], _, hne => exact hne x rfl
    rw [dif_neg hn]
    refine .tuple ?_
    have : ∀ (as bs : List Value), All2 (VR ρ) as bs → as.all (fun v => match v with | .tuple _ => false | _ => true) = true → All2 (V2 ρ) as bs := by
      intro as bs hab
      induction hab with
      | nil => intro _; exact .nil
      | cons h1 _ ih =>
        intro ha
        rw [List.all_cons, Bool.and_eq_true] at ha
        refine .cons (h1.to2 ?_) (ih ha.2)
        rintro vs rfl
        cases ha.1
    exact this _ _ h hc

theorem of_ok' {α : Type} {o : Option α} {s s' : St} {a : α} (h : M.of o s = .ok a s') : s' = s := by
  cases o with
  | none => cases h
  | some a => exact (pure_ok h).2
theorem loadA_next {i : TI} {x v : Value} {s s' : St} (h : loadA i x s = .ok v s') : s'.next = s.next := by
  unfold loadA at h
  split at h
  · rename_i id off
    cases hag : i.isAgg with
    | true =>
      rw [hag] at h
      obtain ⟨c, s1, h1, h2⟩ := bind_ok (show M.bind _ _ s = _ from h)
      obtain ⟨cs, es, own, old, par, hg, hw, he, hn⟩ := readAt_ok h1
      obtain ⟨rfl, rfl⟩ := pure_ok h2
      exact hn
    | false =>
      rw [hag] at h
      obtain ⟨cs, es, own, old, par, hg, hw, he, hn⟩ := readOne_ok (show readOne id off s = _ from h)
      exact hn
  · cases h
theorem aresults_next {f : Fr} : ∀ (l : List ResultVar) {s s' : St} {vs : List Value}, aresults E f l s = .ok vs s' → s'.next = s.next
  | [], s, s', vs, h => by
    obtain ⟨_, rfl⟩ := pure_ok h
    rfl
  | x :: l, s, s', vs, h => by
    obtain ⟨v, s1, h1, h2⟩ := bind_ok h
    obtain ⟨vs1, s2, h3, h4⟩ := bind_ok h2
    obtain ⟨_, rfl⟩ := pure_ok h4
    refine (aresults_next l h3).trans ?_
    cases x with
    | tmp t =>
      obtain ⟨_, rfl⟩ := pure_ok h1
      rfl
    | cell q t =>
      obtain ⟨i, s3, k1, k2⟩ := bind_ok h1
      rw [loadA_next k2, of_ok' k1]
theorem packA_next {vs : List Value} {s s' : St} {v : Value} (hp : packA vs s = .ok v s') : s'.next = s.next := by
  unfold packA at hp
  split at hp
  · obtain ⟨_, rfl⟩ := pure_ok hp
    rfl
  · obtain ⟨hc, hp⟩ := cond_ok hp
    obtain ⟨_, rfl⟩ := pure_ok hp
    rfl

theorem framed_call (ok : RunOk E G) (N n : Nat) : ∀ g args, Framed (acall E N n g args) := fun g args => framed_acall ok.orcs N n g args

theorem tag_ok {α : Type} {n : Nat} {m : M α} {s s' : St} {a : α} (h : M.tag n m s = .ok a s') : m s = .ok a s' := by
  exact h

theorem putParams_fr {ρ : Ren} : ∀ (ps : List Tmp) {args args' : List Value}, All2 (VR ρ) args args' → ∀ {f : Fr} {a : Act}, FrRel ρ f a →
    FrRel ρ (putParams f ps args) { a with tmps := (ps.zip args').foldl (fun t (p : Tmp × Value) => t.setIfInBounds p.1 p.2) a.tmps }
  | [], args, args', ha, f, a, h => by
    unfold putParams
    exact h
  | p :: ps, _, _, .nil, f, a, h => by
    unfold putParams
    exact h
  | p :: ps, _, _, .cons hv ht, f, a, h => by
    unfold putParams
    exact putParams_fr ps ht (h.put (some p) hv)

theorem around_sound (ok : RunOk E G) {call : Cal → List Value → M Value} (hc : CallOk E G call) (hfc : ∀ g args, Framed (call g args)) (N : Nat) {id : Nat} {args : List Value} {s s' : St} {v : Value} (h : around E call N id args s = .ok v s') {ρ : Ren} {w : World} {args' : List Value} {l : Pl} (hl : ρ id = some l)
    (r : Rel G B w0 ρ s.heap w) (hG : G ≤ s.next) (hf : Fresh ρ s.next s'.next) (ha : All2 (VR ρ) args args') :
    ∃ fn tmps assign body, (Instr.yield l.k ⟨args'⟩).run E.P w = .ok (.round l.k fn tmps assign body) w ∧ RoundIn Fence.wide 0 E.P l.k fn tmps assign body w (Hands G B w0 ρ s s' v) := by
  obtain ⟨b, s1, h1, h2⟩ := bind_ok h
  obtain ⟨hg, he, hn⟩ := getBlk_ok h1
  split at h2
  · rename_i st pend d
    obtain ⟨hchk, h3⟩ := cond_ok h2
    simp only [Bool.and_eq_true] at hchk
    obtain ⟨hlen, hk1, hk2⟩ := hchk
    have hlen := Nat.eq_of_beq_eq_true hlen
    rw [ok.glob] at hk1 hk2
    obtain ⟨ea, s2, h4, h5⟩ := bind_ok h3
    cases hnorm : ea.1 with
    | exit i => rw [hnorm] at h5; cases h5
    | ret => rw [hnorm] at h5; cases h5
    | normal =>
      rw [hnorm] at h5
      obtain ⟨u, s3, h6, h7⟩ := bind_ok h5
      obtain ⟨eb, s4, h8, h9⟩ := bind_ok h7
      obtain ⟨rec, hw, hr⟩ := loop_at r hg hl
      have hsz : (⟨args'⟩ : Array Value).size = rec.params.size := by
        have e1 : rec.params.size = d.params.length := by rw [← hr.params]; simp
        have e2 := ha.length
        simp
        omega
      refine ⟨_, _, _, _, run_yield hw hsz, ?_⟩
      refine roundIn_of_wpIn trivial ?_
      have hfr0 : FrRel ρ { d.fr with marks := [] } { tmps := rec.tmps, defers := [] } := ⟨hr.fr.size, hr.fr.small, .nil, hr.fr.get⟩
      have hfr1 := putParams_fr d.params ha hfr0
      have efold : ((rec.params.zip ⟨args'⟩).foldl (fun tmps (t, a) => tmps.setIfInBounds t a) rec.tmps) = (d.params.zip args').foldl (fun t (p : Tmp × Value) => t.setIfInBounds p.1 p.2) rec.tmps := by
        rw [← hr.params]
        rw [← Array.foldl_toList]
        simp
      rw [efold]
      have fra := fun c f => framed_acode (E := E) hfc true N c f
      have n1 := next_mono (fra d.assign _) h4
      have n3 := next_mono (fra d.body _) h8
      have n2 : s3.next = s2.next := by
        obtain ⟨b5, s5, k1, k2⟩ := bind_ok h6
        obtain ⟨_, _, k3⟩ := getBlk_ok k1
        split at k2
        · have := (putBlk_ok k2).2.2
          omega
        · cases k2
      have n4 : s'.next = s4.next := by
        obtain ⟨b5, s5, k1, k2⟩ := bind_ok h9
        obtain ⟨_, _, k3⟩ := getBlk_ok k1
        split at k2
        · cases hxx : eb.1 <;> rw [hxx] at k2 <;>
            (obtain ⟨_, _, k4, k5⟩ := bind_ok k2
             obtain ⟨_, rfl⟩ := pure_ok k5
             have := (putBlk_ok k4).2.2
             omega)
        · cases k2
      rw [hr.assign, hr.body]
      refine acode_sound (rd := some l.k) (E := E) (G := G) (B := B) (w0 := w0) ok.env ok.mixed hc hfc N d.assign hk1 h4 (by rw [he]; exact r) (by omega) (fun x i1 i2 => hf x (by omega) (by omega)) hfr1 ?_
      intro a1 w1 ρ1 q1 r1 f1
      rw [hnorm]
      obtain ⟨_, w2, hb1, r2⟩ := beginRound_ok (E := E) r1 (q1.sub _ _ hl) h6
      refine ⟨w2, hb1, ?_⟩
      rw [hn] at q1
      have hf2 : Fresh ρ1 s3.next s'.next := by
        have := hf.right (by omega) q1
        rw [n2]
        exact this
      refine acode_sound (rd := some l.k) (E := E) (G := G) (B := B) (w0 := w0) ok.env ok.mixed hc hfc N d.body hk2 h8 r2 (by omega) (fun x i1 i2 => hf2 x i1 (by omega)) f1 ?_
      intro a3 w3 ρ3 q3 r3 f3
      rw [n2] at q3
      have q13 := q1.trans (by omega) (by omega) q3
      obtain ⟨_, bb, w4, rfl, hend, r4⟩ := endRound_ok (E := E) r3 (q13.sub _ _ hl) h9
      have hand : Hands G B w0 ρ s s' (.bool bb) (.returned (.bool bb)) w4 := ⟨_, ρ3, rfl, by rw [n4]; exact q13, r4, VR.of_plain rfl⟩
      cases hx : eb.1 with
      | normal => rw [hx] at hend; exact ⟨_, w4, hend, hand⟩
      | exit i => rw [hx] at hend; exact ⟨_, w4, hend, hand⟩
      | ret => rw [hx] at hend; exact ⟨_, w4, hend, hand⟩
  · cases h2

theorem acall_sound (ok : RunOk E G) (N : Nat) : ∀ n, CallOk E G (acall E N n)
  | 0 => by
    refine ⟨?_, ?_⟩
    · intro B w0 g args s s' v h
      cases h
    · intro B w0 g args s s' v h
      cases h
  | n + 1 => by
    have ih := acall_sound ok N n
    refine ⟨?_, ?_⟩
    rotate_left
    · intro B w0 id args s s' v h ρ w args' l hl r hG hf ha
      have h := tag_ok (show M.tag _ _ s = _ from h)
      exact around_sound ok ih (framed_call ok N n) N h hl r hG hf ha
    intro B w0 g args s s' v h ρ w args' r hG hf ha
    have h := tag_ok (show M.tag _ _ s = _ from h)
    cases ho : E.orc g with
    | some o =>
      rw [ho] at h
      exact ok.orc g o ho B w0 args s s' v h ρ w args' r hG hf ha
    | none =>
      rw [ho] at h
      dsimp only at h
      cases hfn : E.funcs.get g with
      | none => rw [hfn] at h; cases h
      | some fn =>
        rw [hfn] at h
        dsimp only at h
        cases hb : fn.body with
        | none => rw [hb] at h; cases h
        | some c =>
          rw [hb] at h
          obtain ⟨hlt, h⟩ := cond_ok h
          obtain ⟨ef, s1, h1, h2⟩ := bind_ok h
          obtain ⟨hP, _⟩ := ok.env.funcs g fn hfn
          have main : ((takeAll ef.2.marks).bind fun _ => (aresults E ef.2 fn.results.toList).bind packA) s1 = .ok v s' → (exOf ef.1 = .normal ∨ exOf ef.1 = .ret) →
              Calls E.P g ⟨args'⟩ w (Hands G B w0 ρ s s' v) := by
            intro h2 hex
            obtain ⟨u, s5, h5, h6⟩ := bind_ok h2
            obtain ⟨vs, s2, h3, h4⟩ := bind_ok h6
            rw [← callsIn_wide (n := 0)]
            refine callsIn_of_wp_marks hP hb trivial ?_
            have n5 := next_mono (framed_takeAll ef.2.marks) h5
            have n2 : s'.next = s5.next := (packA_next h4).trans (aresults_next _ h3)
            refine acode_sound (rd := none) (E := E) (G := G) (B := B) (w0 := w0) ok.env ok.mixed ih (framed_call ok N n) N c (ok.codes g fn c hfn hb) h1 r hG (fun x i1 i2 => hf x i1 (by omega)) (enter_fr ha fn.ntmps hlt) ?_
            intro a1 w1 ρ1 q1 r1 f1
            obtain ⟨n6, w5, r5, leave⟩ := takeAll_ok (P := E.P) ef.2.marks h5 r1 f1.defers
            obtain ⟨e1, e2, vs', g1, g2⟩ := aresults_ok ok.env f1 fn.results.toList r5 h3
            obtain ⟨e5, g3⟩ := packA_ok g2 h4
            rw [← e5] at e1 e2
            have hres : (results fn a1.tmps).run E.P w5 = .ok (if h : (⟨vs'⟩ : Array Value).size = 1 then (⟨vs'⟩ : Array Value)[0] else .tuple ⟨vs'⟩) w5 := by
              unfold results
              rw [Sem.run_bind, Array.mapM_eq_mapM_toList]
              rw [map_eq_pure_bind, Sem.run_bind]
              have key : ∀ (q : Result (List Value)), q = .ok vs' w5 → ((q.andThen fun l w' => Sem.run E.P (pure l.toArray) w').andThen fun a w' => Sem.run E.P (pure (if h : a.size = 1 then a[0] else Value.tuple a)) w') = .ok (if h : (⟨vs'⟩ : Array Value).size = 1 then (⟨vs'⟩ : Array Value)[0] else .tuple ⟨vs'⟩) w5 := by
                rintro q rfl
                rfl
              refine key _ ?_
              exact g1
            have hpost := leave fn a1.tmps (Hands G B w0 ρ s s' v) _ hres ⟨_, ρ1, rfl, by rw [e2, n6]; exact q1, by rw [e1]; exact r5, g3⟩
            rcases hex with hex | hex <;> rw [hex] <;> exact hpost
          cases hx : ef.1 with
          | normal => rw [hx] at h2 main; exact main h2 (.inl rfl)
          | ret => rw [hx] at h2 main; exact main h2 (.inr rfl)
          | exit i => rw [hx] at h2; cases h2
end
end Go.Abs

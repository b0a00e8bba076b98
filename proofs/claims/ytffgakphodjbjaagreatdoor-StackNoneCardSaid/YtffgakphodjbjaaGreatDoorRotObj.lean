/- Loops over functions: their records and their marks. -/
import Derived.Test.YtffgakphodjbjaaGreatDoorRotAny2
import Derived.RangeFuncLeaves
import Derived.RangeFuncRecord
set_option linter.unusedVariables false
set_option linter.unusedSimpArgs false
namespace Go.Abs
open Go.RowKit

section
variable {E : Env} {G B : Nat} {w0 w : World} {ρ : Ren} {h : T Blk} {s s' : St}

def notCells : Blk → Bool
  | .cells .. => false
  | _ => true

/-- A block that is no cells is turned. -/
theorem Rel.putO (r : Rel G B w0 ρ h w) {id : Nat} (hid : Nat.blt id bound = true) {b b' : Blk} (hb : h.get id = some b) (hn : notCells b = true) (hn' : notCells b' = true) (hv : live b = true) {l : Pl} (hl : ρ id = some l) (hB : B ≤ l.k) (hlt : l.k < w.heap.size) (o : Obj)
    (hb' : BlkRel B ρ (w.putObj l.k o) id b') : Rel G B w0 ρ (h.set b' 64 id) (w.putObj l.k o) := by
  have hget : ∀ x, (h.set b' 64 id).get x = if x = id then some b' else h.get x := fun x => Abs.T.get_set _ _ _ _ hid
  have hown : ownB b = true := by
    cases b with
    | cells _ _ _ _ _ => cases hn
    | dead => cases hv
    | iter _ _ => rfl
    | lp _ _ _ => rfl
    | df => rfl
  have far : ∀ x bx, x ≠ id → h.get x = some bx → live bx = true → ∀ lx, ρ x = some lx → lx.k ≠ l.k := by
    intro x bx hx hbx hvx lx hlx hk
    rcases r.sep x id bx b lx l hx hbx hb hvx hv (.inr hown) hlx hl hk with u | u
    · obtain ⟨_, _, _, _, _, _, _, _, _, _, e2, _⟩ := under_cells u; subst e2; cases hn
    · obtain ⟨_, _, _, _, _, _, _, _, _, e1, _⟩ := under_cells u; subst e1; cases hn
  refine ⟨⟨r.below.os, r.below.tape, r.below.output, ?_, fun k hk => ?_⟩, ?_, r.glob, fun x bx hbx => ?_, fun i j bi bj li lj hij hi hj vi vj ho ρi ρj hk => ?_⟩
  · simp; exact r.below.size
  · rw [World.putObj_heap_other (by omega)]
    exact r.below.block k hk
  · simp; exact r.size
  · rw [hget] at hbx
    by_cases e : x = id
    · subst e
      rw [if_pos rfl] at hbx
      cases hbx
      exact hb'
    · rw [if_neg e] at hbx
      cases hv' : live bx with
      | false => cases bx <;> first | trivial | cases hv'
      | true => exact (r.blk x bx hbx).mono (fun _ _ h => h) (by simp) (fun lx hlx _ => World.putObj_heap_other (far x bx e hbx hv' lx hlx))
  · rw [hget] at hi hj
    by_cases e : i = id
    · subst e
      rw [if_neg (Ne.symm hij)] at hj
      rw [hl] at ρi; cases ρi
      exact absurd hk.symm (far j bj (Ne.symm hij) hj vj lj ρj)
    · rw [if_neg e] at hi
      by_cases e' : j = id
      · subst e'
        rw [hl] at ρj; cases ρj
        exact absurd hk (far i bi e hi vi li ρi)
      · rw [if_neg e'] at hj
        exact r.sep i j bi bj li lj hij hi hj vi vj ho ρi ρj hk

/-- A loop's record is turned. -/
theorem Rel.putLoop (r : Rel G B w0 ρ h w) {id : Nat} (hid : Nat.blt id bound = true) {st : LoopState} {pend : Option Ex} {d : LoopD} (hb : h.get id = some (.lp st pend d)) {l : Pl} (hl : ρ id = some l) {rec : Loop} (hw : w.heap[l.k]? = some (.loop rec)) (hr : LoopRel ρ st pend d rec)
    (st' : LoopState) (pend' : Option Ex) : Rel G B w0 ρ (h.set (.lp st' pend' d) 64 id) (w.putObj l.k (.loop { rec with state := st', pending := pend'.map codeOf })) := by
  obtain ⟨l', h1, h2, h3, h4, rec', h5, h6⟩ := r.blk id _ hb
  have : l' = l := by rw [hl] at h1; cases h1; rfl
  subst this
  exact r.putO hid hb rfl rfl rfl hl h3 h4 _ ⟨l', hl, h2, h3, by simp; exact h4, _, World.putObj_heap_same h4, rfl, rfl, hr.fr, hr.params, hr.assign, hr.body⟩

theorem loop_at (r : Rel G B w0 ρ h w) {id : Nat} {st : LoopState} {pend : Option Ex} {d : LoopD} (hb : h.get id = some (.lp st pend d)) {l : Pl} (hl : ρ id = some l) : ∃ rec, w.heap[l.k]? = some (.loop rec) ∧ LoopRel ρ st pend d rec := by
  obtain ⟨l', h1, h2, h3, h4, rec', h5, h6⟩ := r.blk id _ hb
  have : l' = l := by rw [hl] at h1; cases h1; rfl
  subst this
  exact ⟨rec', h5, h6⟩

theorem beginRound_ok (r : Rel G B w0 ρ s.heap w) {id : Nat} {l : Pl} (hl : ρ id = some l) {u : Unit} (h : beginRound id s = .ok u s') : s'.next = s.next ∧ ∃ w', (Instr.beginRound l.k).run E.P w = .ok () w' ∧ Rel G B w0 ρ s'.heap w' := by
  obtain ⟨b, s1, h1, h2⟩ := bind_ok h
  obtain ⟨hg, he, hn⟩ := getBlk_ok h1
  split at h2
  · rename_i pend d
    obtain ⟨hb, he2, hn2⟩ := putBlk_ok h2
    obtain ⟨rec, hw, hr⟩ := loop_at r hg hl
    refine ⟨by omega, _, run_beginRound hw hr.state, ?_⟩
    have := r.putLoop hb hg hl hw hr .busy pend
    rw [he2, he]
    rw [← hr.pending] at this
    exact this
  · cases h2

/-- The jump that a round leaves. -/
def jumpOf : Ex → Option Code
  | .normal => none
  | x => some (codeOf x)
theorem endRound_ok (r : Rel G B w0 ρ s.heap w) {id : Nat} {l : Pl} (hl : ρ id = some l) {x : Ex} {v : Value} (h : endRound id x s = .ok v s') : s'.next = s.next ∧ ∃ b w', v = .bool b ∧ (Instr.endRound l.k (jumpOf x)).run E.P w = .ok (.bool b) w' ∧ Rel G B w0 ρ s'.heap w' := by
  obtain ⟨b, s1, h1, h2⟩ := bind_ok h
  obtain ⟨hg, he, hn⟩ := getBlk_ok h1
  split at h2
  · rename_i pend d
    obtain ⟨rec, hw, hr⟩ := loop_at r hg hl
    have run := run_endRound (P := E.P) (jumpOf x) hw
    cases x with
    | normal =>
      obtain ⟨u, s2, h3, h4⟩ := bind_ok h2
      obtain ⟨rfl, rfl⟩ := pure_ok h4
      obtain ⟨hb, he2, hn2⟩ := putBlk_ok h3
      refine ⟨by omega, true, _, rfl, run, ?_⟩
      rw [he2, he]
      exact r.putLoop hb hg hl hw hr .ready none
    | exit i =>
      obtain ⟨u, s2, h3, h4⟩ := bind_ok h2
      obtain ⟨rfl, rfl⟩ := pure_ok h4
      obtain ⟨hb, he2, hn2⟩ := putBlk_ok h3
      refine ⟨by omega, false, _, rfl, run, ?_⟩
      rw [he2, he]
      exact r.putLoop hb hg hl hw hr .done (some (.exit i))
    | ret =>
      obtain ⟨u, s2, h3, h4⟩ := bind_ok h2
      obtain ⟨rfl, rfl⟩ := pure_ok h4
      obtain ⟨hb, he2, hn2⟩ := putBlk_ok h3
      refine ⟨by omega, false, _, rfl, run, ?_⟩
      rw [he2, he]
      exact r.putLoop hb hg hl hw hr .done (some .ret)
  · cases h2

theorem shutLoop_ok (r : Rel G B w0 ρ s.heap w) {id : Nat} {l : Pl} (hl : ρ id = some l) {x : Ex} (h : shutLoop id s = .ok x s') : s'.next = s.next ∧ ∃ pend w', x = exOfPend pend ∧ (Instr.endLoop l.k).run E.P w = .ok (pend.map codeOf) w' ∧ Rel G B w0 ρ s'.heap w' := by
  obtain ⟨b, s1, h1, h2⟩ := bind_ok h
  obtain ⟨hg, he, hn⟩ := getBlk_ok h1
  split at h2
  · rename_i pend d
    obtain ⟨rec, hw, hr⟩ := loop_at r hg hl
    obtain ⟨u, s2, h3, h4⟩ := bind_ok h2
    obtain ⟨rfl, rfl⟩ := pure_ok h4
    obtain ⟨hb, he2, hn2⟩ := putBlk_ok h3
    have run := run_endLoop (P := E.P) hw (by rw [hr.state]; simp)
    have := r.putLoop hb hg hl hw hr .exhausted pend
    rw [hr.pending] at run
    refine ⟨by omega, pend, _, rfl, run, ?_⟩
    rw [he2, he]
    exact this
  · rename_i pend d
    obtain ⟨rec, hw, hr⟩ := loop_at r hg hl
    obtain ⟨u, s2, h3, h4⟩ := bind_ok h2
    obtain ⟨rfl, rfl⟩ := pure_ok h4
    obtain ⟨hb, he2, hn2⟩ := putBlk_ok h3
    have run := run_endLoop (P := E.P) hw (by rw [hr.state]; simp)
    have := r.putLoop hb hg hl hw hr .exhausted pend
    rw [hr.pending] at run
    refine ⟨by omega, pend, _, rfl, run, ?_⟩
    rw [he2, he]
    exact this
  · cases h2

/-- The blocks of the rounds' deferred calls are shut. -/
theorem takeAll_ok {P : Program} : ∀ (ds : List Nat) {s s' : St} {w : World} {dl : List Deferred} {u : Unit}, takeAll ds s = .ok u s' → Rel G B w0 ρ s.heap w → All2 (MarkRel ρ) ds dl → s'.next = s.next ∧ ∃ w', Rel G B w0 ρ s'.heap w' ∧
    ∀ (fn : Func) (tmps : Array Value) (R : Ending → World → Prop) (v : Value), (results fn tmps).run P w' = .ok v w' → R (.returned v) w' → LeavesInM (FR none) 0 P fn tmps R dl .returning w
  | [], s, s', w, dl, u, h, r, hm => by
    obtain ⟨_, rfl⟩ := pure_ok h
    cases hm
    exact ⟨rfl, w, r, fun fn tmps R v hv hR => ⟨v, hv, hR⟩⟩
  | D :: ds, s, s', w, dl, u, h, r, hm => by
    obtain ⟨b, s1, h1, h2⟩ := bind_ok h
    obtain ⟨hg, he, hn⟩ := getBlk_ok h1
    split at h2
    · obtain ⟨u1, s2, h3, h4⟩ := bind_ok h2
      obtain ⟨hb, he2, hn2⟩ := putBlk_ok h3
      cases hm with
      | cons hd ht =>
        obtain ⟨l, hl, rfl⟩ := hd
        obtain ⟨l', q1, q2, q3, q4, q5⟩ := r.blk D _ hg
        have : l' = l := by rw [hl] at q1; cases q1; rfl
        subst this
        have r2 := r.putO hb hg rfl (b' := .dead) rfl rfl hl q3 q4 (.deferred none) trivial
        rw [← he, ← he2] at r2
        obtain ⟨e1, w', e2, e3⟩ := takeAll_ok ds h4 r2 ht
        exact ⟨by omega, w', e2, fun fn tmps R v hv hR => ⟨by simp, .inl ⟨l'.k, _, rfl, run_takeDeferred q5, e3 fn tmps R v hv hR⟩⟩⟩
    · cases h2

/-- A loop over a function. -/
theorem arange_sound (ok : EnvOk E G) {call : Cal → List Value → M Value} (hc : CallOk E G call) (hfc : ∀ g args, Framed (call g args)) {N : Nat} {g : Operand} {ps : Array Tmp} {assign body : Code} (hk : opdOk G g = true)
    {f : Fr} {ef : Ex × Fr} (h : acode E call false N (.rangeFunc g ps assign body) f s = .ok ef s') {a : Act} (r : Rel G B w0 ρ s.heap w) (hG : G ≤ s.next) (hf : Fresh ρ s.next s'.next) (hfr : FrRel ρ f a) {QQ : Exit → Act → World → Prop}
    (hQ : ∀ a' w' ρ', Ext ρ ρ' s.next s'.next → Rel G B w0 ρ' s'.heap w' → FrRel ρ' ef.2 a' → ∀ x : Exit, (x = match ef.1 with | .normal => .normal | .exit i => .exit i | .ret => .ret) → QQ x a' w') : (Code.rangeFunc g ps assign body).wpIn (FR none) 0 E.P QQ a w := by
  have hv := hfr.eval r hk
  unfold acode at h
  rw [cond_false] at h
  generalize hq : f.eval g = q at h hv
  split at h
  · rename_i gf first captured
    obtain ⟨as', bs', hge, hv1, hv2⟩ := VR.func (as := first.toList) (bs := captured.toList) hv
    generalize hfn : E.funcs.get gf = qf at h
    split at h
    · cases h
    · rename_i fn
      obtain ⟨hP, hname⟩ := ok.funcs gf fn hfn
      generalize hb : fn.body = qb at h
      split at h
      · cases h
      · rename_i c
        obtain ⟨D, s1, h1, h2⟩ := bind_ok h
        obtain ⟨L, s2, h3, h4⟩ := bind_ok h2
        obtain ⟨v, s3, h5, h6⟩ := bind_ok h4
        obtain ⟨x, s4, h7, h8⟩ := bind_ok h6
        obtain ⟨rfl, rfl⟩ := pure_ok h8
        obtain ⟨rfl, hb1, he1, hn1⟩ := newBlk_ok h1
        obtain ⟨rfl, hb2, he2, hn2⟩ := newBlk_ok h3
        have n3 := next_mono (hfc (.fn gf) _) h5
        have n4 : s'.next = s3.next := by
          obtain ⟨b, s5, k1, k2⟩ := bind_ok h7
          obtain ⟨_, _, k3⟩ := getBlk_ok k1
          split at k2
          · obtain ⟨_, _, k4, k5⟩ := bind_ok k2
            obtain ⟨_, rfl⟩ := pure_ok k5
            have := (putBlk_ok k4).2.2
            omega
          · obtain ⟨_, _, k4, k5⟩ := bind_ok k2
            obtain ⟨_, rfl⟩ := pure_ok k5
            have := (putBlk_ok k4).2.2
            omega
          · cases k2
        refine wpIn_rangeFunc fun f0 _ => ?_
        -- the two blocks
        have hfr1 : ρ s.next = none := hf _ (Nat.le_refl _) (by omega)
        have hfr2 : ρ s1.next = none := hf _ (by omega) (by omega)
        obtain ⟨W1, hW1⟩ : ∃ W1, w.alloc (.deferred (some [])) = W1 := ⟨_, rfl⟩
        have hsz1 : W1.heap.size = w.heap.size + 1 := by rw [← hW1, size_alloc']
        have hat1 : W1.heap[w.heap.size]? = some (.deferred (some [])) := by rw [← hW1]; exact World.alloc_heap_new w _
        have r1 : Rel G B w0 (fun x => if x = s.next then some ⟨w.heap.size, 0, 0, 0⟩ else ρ x) s1.heap W1 := by
          rw [he1, ← hW1]
          refine r.new hb1 hG hfr1 _ _ ⟨w.heap.size, 0, 0, 0⟩ rfl ⟨⟨w.heap.size, 0, 0, 0⟩, by simp, rfl, r.size, by rw [size_alloc']; exact Nat.lt_succ_self _, World.alloc_heap_new w _⟩
        obtain ⟨ρ1, hρ1⟩ : ∃ ρ1 : Ren, (fun x => if x = s.next then some ⟨w.heap.size, 0, 0, 0⟩ else ρ x) = ρ1 := ⟨_, rfl⟩
        rw [hρ1] at r1
        have x1 : Ext ρ ρ1 s.next s1.next := by rw [← hρ1]; exact Ext.one hfr1 hn1
        have d1 : ρ1 s.next = some ⟨w.heap.size, 0, 0, 0⟩ := by rw [← hρ1]; simp
        have hfr2' : ρ1 s1.next = none := by
          rw [← hρ1]
          dsimp only
          rw [if_neg (by omega)]
          exact hfr2
        obtain ⟨rec, hrec⟩ : ∃ rec : Loop, rec = { state := .ready, pending := none, fn := f0, tmps := a.tmps, params := ps, assign, body, defers := w.heap.size } := ⟨_, rfl⟩
        obtain ⟨W2, hW2⟩ : ∃ W2, W1.alloc (.loop rec) = W2 := ⟨_, rfl⟩
        have s12 : Sub ρ1 (fun x => if x = s1.next then some ⟨W1.heap.size, 0, 0, 0⟩ else ρ1 x) := (Ext.one (l := ⟨W1.heap.size, 0, 0, 0⟩) hfr2' hn2).sub
        have r2 : Rel G B w0 (fun x => if x = s1.next then some ⟨W1.heap.size, 0, 0, 0⟩ else ρ1 x) s2.heap W2 := by
          rw [he2, ← hW2]
          refine r1.new hb2 (by omega) hfr2' _ _ ⟨W1.heap.size, 0, 0, 0⟩ rfl ⟨⟨W1.heap.size, 0, 0, 0⟩, by simp, rfl, r1.size, by rw [size_alloc']; exact Nat.lt_succ_self _, rec, World.alloc_heap_new W1 _, ?_⟩
          subst hrec
          exact ⟨rfl, rfl, (hfr.tm.mono x1.sub).mono s12, rfl, rfl, rfl⟩
        obtain ⟨ρ2, hρ2⟩ : ∃ ρ2 : Ren, (fun x => if x = s1.next then some ⟨W1.heap.size, 0, 0, 0⟩ else ρ1 x) = ρ2 := ⟨_, rfl⟩
        rw [hρ2] at r2 s12
        have x2 : Ext ρ1 ρ2 s1.next s2.next := by rw [← hρ2]; exact Ext.one hfr2' hn2
        have d2 : ρ2 s1.next = some ⟨W1.heap.size, 0, 0, 0⟩ := by rw [← hρ2]; simp
        have x12 : Ext ρ ρ2 s.next s2.next := x1.trans (by omega) (by omega) x2
        have hargs : All2 (VR ρ2) (first.toList ++ [.func (.yield s1.next) #[] #[]] ++ captured.toList) (as' ++ [.func (.yield W1.heap.size) #[] #[]] ++ bs') :=
          ((all2_VR0 (hv1.mono fun _ _ h => h.mono x12.sub)).append (.cons (VR.of1 (.yl d2)) .nil)).append (all2_VR0 (hv2.mono fun _ _ h => h.mono x12.sub))
        have hcall := hc.fn B w0 gf _ s2 s3 v h5 ρ2 W2 _ r2 (by omega) (fun id i1 i2 => (hf.right (by omega) x12) id i1 (by omega)) hargs
        refine ⟨w.heap.size + 1, [{ target := .collected w.heap.size, args := #[] }], W2, { target := .fn (.func gf) ⟨bs'⟩, args := ⟨as'⟩ ++ #[.func (.yield (w.heap.size + 1)) #[] #[]] }, W2, gf,
          ⟨as' ++ [.func (.yield W1.heap.size) #[] #[]] ++ bs'⟩, W2, ?_, ?_, fun _ _ => trivial, ?_, fun h => (by cases h), ?_⟩
        · rw [← hW2, ← hW1, hrec]
          exact run_enterLoop_outer _ _ _ _ _
        · simp only [resolve, hge]
          simp [go_sem]
        · have e : (⟨as'⟩ ++ #[.func (.yield (w.heap.size + 1)) #[] #[]] ++ ⟨bs'⟩ : Array Value) = ⟨as' ++ [.func (.yield W1.heap.size) #[] #[]] ++ bs'⟩ := by
            apply Array.ext'
            rw [hsz1]
            simp
          rw [← e]
          exact run_callFunc_in hP hname hb _ W2
        · refine calls_FR (hcall.mono ?_)
          rintro e w3 ⟨v', ρ3, rfl, q1, q2, q3⟩
          have d3 : ρ3 s1.next = some ⟨W1.heap.size, 0, 0, 0⟩ := q1.sub _ _ d2
          obtain ⟨_, pend, w4, hx, hrun, r4⟩ := shutLoop_ok (E := E) q2 d3 h7
          rw [hsz1] at hrun
          refine ⟨_, w4, hrun, ?_⟩
          have x3 : Ext ρ ρ3 s.next s'.next := by
            have := x12.trans (by omega) (by omega) q1
            rw [n4]
            exact this
          have hfr' : FrRel ρ3 { f with marks := s.next :: f.marks } { a with defers := [{ target := .collected w.heap.size, args := #[] }] ++ a.defers } := by
            have := hfr.mono x3.sub
            exact ⟨this.size, this.small, .cons ⟨_, q1.sub _ _ (x2.sub _ _ d1), rfl⟩ this.defers, this.get⟩
          have fin := hQ _ w4 ρ3 x3 r4 hfr'
          cases pend with
          | none => exact fin .normal (by rw [hx]; rfl)
          | some y =>
            cases y with
            | normal => exact wpIn_skip (fin .normal (by rw [hx]; rfl))
            | exit i => exact wpIn_exit (fin (.exit i) (by rw [hx]; rfl))
            | ret => exact wpIn_ret (fin .ret (by rw [hx]; rfl))
  · cases h
end
end Go.Abs

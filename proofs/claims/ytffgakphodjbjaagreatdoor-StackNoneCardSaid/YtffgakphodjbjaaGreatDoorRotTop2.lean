/- The tables without what the evaluator does not take; oracles; closed runs by the quick evaluator. -/
import Derived.Test.YtffgakphodjbjaaGreatDoorRotTop
import Derived.Test.YtffgakphodjbjaaGreatDoorRotFast
set_option linter.unusedVariables false
set_option linter.unusedSimpArgs false
namespace Go.Abs
open Go.RowKit
noncomputable section

/-- A table of those that may be. -/
def selTab {α : Type} (p : α → Bool) (l : List α) : Nat → T α := List.rec (motive := fun _ => Nat → T α) (fun _ => .nil) (fun f _ ih i => fif (p f) ((ih (Nat.succ i)).set f 64 i) (ih (Nat.succ i))) l
theorem selTab_get {α : Type} (p : α → Bool) : ∀ (l : List α) (i t : Nat), i + l.length ≤ bound → ∀ a, (selTab p l i).get t = some a → i ≤ t ∧ l[t - i]? = some a ∧ p a = true
  | [], i, t, _, a, h => by
    have : (T.nil : T α).get t = some a := h
    rw [T.get_nil] at this
    cases this
  | f :: fs, i, t, hl, a, h => by
    have h : (fif (p f) ((selTab p fs (i + 1)).set f 64 i) (selTab p fs (i + 1))).get t = some a := h
    have hb : Nat.blt i bound = true := by rw [Nat.blt_eq]; simp at hl; omega
    have hl' : i + 1 + fs.length ≤ bound := by simp at hl; omega
    rw [fif_eq] at h
    have rest : (selTab p fs (i + 1)).get t = some a → i ≤ t ∧ (f :: fs)[t - i]? = some a ∧ p a = true := fun h => by
      obtain ⟨h1, h2, h3⟩ := selTab_get p fs (i + 1) t hl' a h
      refine ⟨by omega, ?_, h3⟩
      rw [show t - i = (t - (i + 1)) + 1 by omega]
      simpa using h2
    cases hp : p f with
    | false =>
      rw [hp] at h
      exact rest h
    | true =>
      rw [hp] at h
      simp only [cond_true] at h
      rw [T.get_set _ _ _ _ hb] at h
      by_cases e : t = i
      · subst e
        rw [if_pos rfl] at h
        cases h
        exact ⟨Nat.le_refl _, by simp, hp⟩
      · rw [if_neg e] at h
        exact rest h

/-- Are a struct's fields' types in the table? -/
def fieldsIn (tab : T TypeInfo) (i : TypeInfo) : Bool := match underOf tab i.desc with
  | some (.struct fs) => fall (fun f => tab.getK f.type false fun _ => true) fs.toList
  | _ => true
def allTab {α : Type} (p : α → Bool) (t : T α) : Bool := T.rec (motive := fun _ => Bool) true (fun _ v _ a b => fif a (fif b (Option.rec (motive := fun _ => Bool) true p v) false) false) t
theorem allTab_get {α : Type} {p : α → Bool} : ∀ {t : T α} {n : Nat} {a : α}, allTab p t = true → t.get n = some a → p a = true
  | .nil, n, a, _, h => by rw [T.get_nil] at h; cases h
  | .node l v r, n, a, ha, h => by
    have ha : fif (allTab p l) (fif (allTab p r) (Option.rec (motive := fun _ => Bool) true p v) false) false = true := ha
    rw [fif_eq] at ha
    cases h1 : allTab p l with
    | false => rw [h1] at ha; cases ha
    | true => cases h2 : allTab p r with
      | false => rw [h1, h2] at ha; cases ha
      | true =>
        rw [h1, h2] at ha
        simp only [cond_true] at ha
        cases n with
        | zero =>
          have h : v = some a := h
          subst h
          exact ha
        | succ n =>
          rw [T.get_succ] at h
          cases hq : Nat.beq (n % 2) 0 with
          | true => rw [hq] at h; exact allTab_get h1 h
          | false => rw [hq] at h; exact allTab_get h2 h
def fbodyOk (G : Nat) (f : Func) : Bool := Option.rec (motive := fun _ => Bool) true (fcodeOk G) f.body
theorem fbodyOk_eq (G : Nat) (f : Func) : fbodyOk G f = bodyOk G f := by
  unfold fbodyOk bodyOk
  cases f.body with
  | none => rfl
  | some c => exact fcodeOk_eq G c

/-- The program as the evaluator takes it. -/
def envOf (P : Program) (G : Nat) (orc : FuncId → Option (List Value → M Value)) : Env := { P := P, types := selTab zeroOk P.types.toList 0, funcs := mkTab 0 P.funcs.toList, orc := orc, glob := G }
/-- What is asked of it, closed. -/
structure ProgOk (P : Program) (G : Nat) : Prop where
  mixed : P.follows .mixedOrders = true
  nt : Nat.ble P.types.toList.length bound = true
  nf : Nat.ble P.funcs.toList.length bound = true
  fields : ((selTab zeroOk P.types.toList 0).viaK some (fun f k => k f) fun ty => allTab (fieldsIn ty) ty) = true
  names : fall nameOk P.funcs.toList = true
  bodies : fall (fbodyOk G) P.funcs.toList = true

theorem runOk_sel {P : Program} {G : Nat} (ok : ProgOk P G) {orc : FuncId → Option (List Value → M Value)}
    (orcs : ∀ g h, orc g = some h → ∀ args, Framed (h args))
    (horc : ∀ g h, orc g = some h → ∀ (B : Nat) (w0 : World) (args : List Value) (s s' : St) (v : Value), h args s = .ok v s' → ∀ (ρ : Ren) (w : World) (args' : List Value), Rel G B w0 ρ s.heap w → G ≤ s.next → Fresh ρ s.next s'.next → All2 (VR ρ) args args' →
      Calls P g ⟨args'⟩ w (Hands G B w0 ρ s s' v)) : RunOk (envOf P G orc) G := by
  have nt : 0 + P.types.toList.length ≤ bound := by rw [Nat.zero_add]; exact Nat.le_of_ble_eq_true ok.nt
  have nf : 0 + P.funcs.toList.length ≤ bound := by rw [Nat.zero_add]; exact Nat.le_of_ble_eq_true ok.nf
  have gt : ∀ t i, (envOf P G orc).types.get t = some i → P.types.toList[t]? = some i ∧ zeroOk i = true := fun t i h => by
    obtain ⟨_, h2, h3⟩ := selTab_get zeroOk P.types.toList 0 t nt i h
    exact ⟨by simpa using h2, h3⟩
  have gf : ∀ t, (envOf P G orc).funcs.get t = P.funcs.toList[t]? := fun t => by
    show (mkTab 0 P.funcs.toList).get t = _
    rw [mkTab_get _ _ _ nf]; simp
  have hfields : allTab (fieldsIn (envOf P G orc).types) (envOf P G orc).types = true := by
    have := ok.fields
    rw [T.viaK_eq _ _ (fun _ _ => rfl), T.via_some] at this
    exact this
  have hnames : P.funcs.toList.all nameOk = true := by rw [← fall_eq]; exact ok.names
  have hbodies : P.funcs.toList.all (bodyOk G) = true := by
    have : fbodyOk G = bodyOk G := funext (fbodyOk_eq G)
    rw [← fall_eq, ← this]; exact ok.bodies
  refine ⟨⟨fun t i hi => ?_, fun t i z hi hz => ?_, fun t i fs hi hu f hfs => ?_, fun g f hg => ?_⟩, rfl, ok.mixed, fun g f c hg hb => ?_, orcs, horc⟩
  · obtain ⟨hi, _⟩ := gt t i hi
    obtain ⟨hlt, hi⟩ := List.getElem?_eq_some_iff.1 hi
    have hlt' : t < P.types.size := by simpa using hlt
    subst hi
    simp [Tables.info?, hlt', envOf]
  · have := (gt t i hi).2
    unfold zeroOk at this
    rw [hz] at this
    simp only [Bool.and_eq_true] at this
    exact ⟨Nat.eq_of_beq_eq_true this.1, this.2⟩
  · have := allTab_get hfields hi
    unfold fieldsIn at this
    rw [hu] at this
    dsimp only at this
    rw [fall_eq] at this
    have := List.all_eq_true.1 this f hfs
    rw [T.getK_eq] at this
    cases hq : (envOf P G orc).types.get f.type with
    | none => rw [hq] at this; cases this
    | some j => exact ⟨j, rfl⟩
  · rw [gf] at hg
    refine ⟨by simpa [envOf] using hg, ?_⟩
    have := all_get hnames hg
    unfold nameOk at this
    simpa using this
  · rw [gf] at hg
    have := all_get hbodies hg
    unfold bodyOk at this
    rw [hb] at this
    exact this

/-- What is held of memory holds where nothing that was there has turned. -/
theorem Rel.over {G B : Nat} {w0 w w' : World} {ρ : Ren} {h : T Blk} (r : Rel G B w0 ρ h w) (b : Below w.heap.size w w') : Rel G B w0 ρ h w' :=
  ⟨r.below.trans (b.mono r.size), Nat.le_trans r.size b.size, r.glob,
   fun id bl hb => (r.blk id bl hb).mono (fun _ _ h => h) b.size (fun l hl hk => b.block l.k hk), r.sep⟩

/-- An oracle that says true to a call without arguments. -/
def truO (args : List Value) : M Value := List.rec (motive := fun _ => M Value) (M.pure (.bool true)) (fun _ _ _ => M.fail) args
def orcOf (l : List FuncId) (rest : FuncId → Option (List Value → M Value)) (g : FuncId) : Option (List Value → M Value) := fif (fmemb g l) (some truO) (rest g)
theorem framed_truO (args : List Value) : Framed (truO args) := by
  cases args with
  | nil => exact Framed.pure _
  | cons _ _ => exact Framed.fail
/-- Said of a function: called without arguments it tells true. -/
def SaysTrue (P : Program) (g : FuncId) : Prop := ∀ w, Calls P g #[] w fun e w' => e = .returned (.bool true) ∧ Below w.heap.size w w'
theorem truO_ok {P : Program} {G : Nat} {g : FuncId} (hg : SaysTrue P g) (B : Nat) (w0 : World) (args : List Value) (s s' : St) (v : Value) (h : truO args s = .ok v s') (ρ : Ren) (w : World) (args' : List Value) (r : Rel G B w0 ρ s.heap w)
    (hG : G ≤ s.next) (hf : Fresh ρ s.next s'.next) (ha : All2 (VR ρ) args args') : Calls P g ⟨args'⟩ w (Hands G B w0 ρ s s' v) := by
  cases args with
  | cons _ _ => cases h
  | nil =>
    cases ha
    cases h
    refine (hg w).mono ?_
    rintro e w' ⟨rfl, hb⟩
    exact ⟨_, ρ, rfl, Ext.refl _ _ _, r.over hb, VR.of_plain rfl⟩
theorem fmemb_mem {g : Nat} : ∀ {l : List Nat}, fmemb g l = true → g ∈ l
  | [], h => by cases h
  | x :: l, h => by
    have h : fif (Nat.beq g x) true (fmemb g l) = true := h
    rw [fif_eq] at h
    cases hx : Nat.beq g x with
    | true => rw [Nat.eq_of_beq_eq_true hx]; simp
    | false => rw [hx] at h; simp [fmemb_mem h]
theorem orcOf_framed {l : List FuncId} {rest : FuncId → Option (List Value → M Value)} (hr : ∀ g h, rest g = some h → ∀ args, Framed (h args)) (g : FuncId) (h : List Value → M Value) (e : orcOf l rest g = some h) (args : List Value) : Framed (h args) := by
  unfold orcOf at e
  rw [fif_eq] at e
  cases hm : fmemb g l with
  | true => rw [hm] at e; cases e; exact framed_truO args
  | false => rw [hm] at e; exact hr g h e args
theorem orcOf_ok {P : Program} {G : Nat} {l : List FuncId} {rest : FuncId → Option (List Value → M Value)} (hl : ∀ g, g ∈ l → SaysTrue P g)
    (hr : ∀ g h, rest g = some h → ∀ (B : Nat) (w0 : World) (args : List Value) (s s' : St) (v : Value), h args s = .ok v s' → ∀ (ρ : Ren) (w : World) (args' : List Value), Rel G B w0 ρ s.heap w → G ≤ s.next → Fresh ρ s.next s'.next → All2 (VR ρ) args args' →
      Calls P g ⟨args'⟩ w (Hands G B w0 ρ s s' v)) (g : FuncId) (h : List Value → M Value) (e : orcOf l rest g = some h) :
    ∀ (B : Nat) (w0 : World) (args : List Value) (s s' : St) (v : Value), h args s = .ok v s' → ∀ (ρ : Ren) (w : World) (args' : List Value), Rel G B w0 ρ s.heap w → G ≤ s.next → Fresh ρ s.next s'.next → All2 (VR ρ) args args' →
      Calls P g ⟨args'⟩ w (Hands G B w0 ρ s s' v) := by
  unfold orcOf at e
  rw [fif_eq] at e
  cases hm : fmemb g l with
  | true => rw [hm] at e; cases e; exact fun B w0 args s s' v h ρ w args' r hG hf ha => truO_ok (hl g (fmemb_mem hm)) B w0 args s s' v h ρ w args' r hG hf ha
  | false => rw [hm] at e; exact hr g h e
def noOrc (g : FuncId) : Option (List Value → M Value) := none

/-- Did the run tell true? -/
def isTrue (r : R Value) : Bool := R.rec (motive := fun _ => Bool) (fun v _ => onBool v true false false) (fun _ => false) r
theorem isTrue_ok {r : R Value} (h : isTrue r = true) : ∃ s, r = .ok (.bool true) s := by
  cases r with
  | err c => cases h
  | ok v s => cases v with
    | bool b => cases b with
      | true => exact ⟨s, rfl⟩
      | false => cases h
    | _ => cases h
theorem saysTrue_of {E : Env} {G : Nat} (ok : RunOk E G) (N n : Nat) {g : FuncId} (h : isTrue (krun E N n g [] (start G)) = true) : SaysTrue E.P g := by
  intro w
  rw [krun_eq] at h
  obtain ⟨s, hs⟩ := isTrue_ok h
  refine closed_calls ok N n (v := .bool true) rfl ?_ w
  rw [hs]
end
end Go.Abs

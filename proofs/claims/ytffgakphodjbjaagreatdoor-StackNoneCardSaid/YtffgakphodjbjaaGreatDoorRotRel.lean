/- How a state of the evaluator stands to a world of the model. -/
import Derived.Test.YtffgakphodjbjaaGreatDoorRotFrame
import Derived.Below
import Derived.Deep.AppendSrc
import Derived.Deep.Upon
import Derived.Laws.IdiomCopy
import Derived.Laws.IdiomStrings
import Derived.Laws.Tables
import Derived.Laws.MakeOwn
import Derived.Great.BuildSlice
set_option linter.unusedVariables false
set_option linter.unusedSimpArgs false
namespace Go.Abs
open Go.RowKit

/-! ## Lists held against each other -/
inductive All2 {α β : Type} (R : α → β → Prop) : List α → List β → Prop where
  | nil : All2 R [] []
  | cons {a b as bs} (h : R a b) (t : All2 R as bs) : All2 R (a :: as) (b :: bs)
theorem All2.length {α β : Type} {R : α → β → Prop} {as : List α} {bs : List β} (h : All2 R as bs) : as.length = bs.length := by
  induction h with
  | nil => rfl
  | cons _ _ ih => simp [ih]
theorem All2.mono {α β : Type} {R S : α → β → Prop} {as : List α} {bs : List β} (h : All2 R as bs) (hs : ∀ a b, R a b → S a b) : All2 S as bs := by
  induction h with
  | nil => exact .nil
  | cons h _ ih => exact .cons (hs _ _ h) ih
theorem All2.get {α β : Type} {R : α → β → Prop} {as : List α} {bs : List β} (h : All2 R as bs) : ∀ (i : Nat) (a : α), as[i]? = some a → ∃ b, bs[i]? = some b ∧ R a b := by
  induction h with
  | nil => intro i a hi; simp at hi
  | cons h _ ih =>
    intro i a hi
    cases i with
    | zero => simp at hi; subst hi; exact ⟨_, rfl, h⟩
    | succ i => simp at hi; exact ih i a hi
theorem All2.of_get {α β : Type} {R : α → β → Prop} : ∀ {as : List α} {bs : List β}, as.length = bs.length → (∀ (i : Nat) (a : α) (b : β), as[i]? = some a → bs[i]? = some b → R a b) → All2 R as bs
  | [], [], _, _ => .nil
  | a :: as, b :: bs, hl, h => .cons (h 0 a b rfl rfl) (All2.of_get (by simpa using hl) fun i x y hx hy => h (i + 1) x y (by simpa using hx) (by simpa using hy))
  | [], _ :: _, hl, _ => by simp at hl
  | _ :: _, [], hl, _ => by simp at hl
theorem All2.append {α β : Type} {R : α → β → Prop} {as cs : List α} {bs ds : List β} (h : All2 R as bs) (k : All2 R cs ds) : All2 R (as ++ cs) (bs ++ ds) := by
  induction h with
  | nil => exact k
  | cons h _ ih => exact .cons h ih
theorem All2.drop {α β : Type} {R : α → β → Prop} {as : List α} {bs : List β} (h : All2 R as bs) : ∀ n, All2 R (as.drop n) (bs.drop n) := by
  induction h with
  | nil => intro n; simp; exact .nil
  | cons h t ih => intro n; cases n with
    | zero => exact .cons h t
    | succ n => exact ih n
theorem All2.take {α β : Type} {R : α → β → Prop} {as : List α} {bs : List β} (h : All2 R as bs) : ∀ n, All2 R (as.take n) (bs.take n) := by
  induction h with
  | nil => intro n; simp; exact .nil
  | cons h t ih => intro n; cases n with
    | zero => exact .nil
    | succ n => exact .cons h (ih n)
theorem All2.refl_of {α : Type} {R : α → α → Prop} : ∀ (l : List α), (∀ a, a ∈ l → R a a) → All2 R l l
  | [], _ => .nil
  | a :: l, h => .cons (h a (by simp)) (All2.refl_of l fun b hb => h b (by simp [hb]))

/-! ## Values -/
structure Pl where
  k : Nat
  d : Nat
  fin : Nat
  es : Nat
abbrev Ren := Nat → Option Pl
def Sub (ρ ρ' : Ren) : Prop := ∀ id l, ρ id = some l → ρ' id = some l

inductive V0 (ρ : Ren) : Value → Value → Prop where
  | same {v : Value} (h : plain1 v = true) : V0 ρ v v
  | ptr {id off : Nat} {l : Pl} (h : ρ id = some l) : V0 ρ (.pointer (some ⟨id, off, none⟩)) (.pointer (some ⟨l.k, l.d + off, none⟩))
  | sliceK {id off n c : Nat} {l : Pl} (h : ρ id = some l) : V0 ρ (.slice (some ⟨id, off, none⟩) n (c + 1)) (.slice (some ⟨l.k, l.d + off, none⟩) n c)
  | sliceU {id off n cap : Nat} {l : Pl} (h : ρ id = some l) (hn : n ≤ cap) (hf : l.d + off + cap * l.es = l.fin) :
      V0 ρ (.slice (some ⟨id, off, none⟩) n 0) (.slice (some ⟨l.k, l.d + off, none⟩) n cap)
  | sliceE {id off : Nat} {l : Pl} {a : Addr} (h : ρ id = some l) : V0 ρ (.slice (some ⟨id, off, none⟩) 0 0) (.slice (some a) 0 0)
inductive V1 (ρ : Ren) : Value → Value → Prop where
  | base {v v' : Value} (h : V0 ρ v v') : V1 ρ v v'
  | fn {g : FuncId} {as bs as' bs' : List Value} (h : All2 (V0 ρ) as as') (k : All2 (V0 ρ) bs bs') : V1 ρ (.func (.func g) ⟨as⟩ ⟨bs⟩) (.func (.func g) ⟨as'⟩ ⟨bs'⟩)
  | yl {id : Nat} {l : Pl} (h : ρ id = some l) : V1 ρ (.func (.yield id) ⟨[]⟩ ⟨[]⟩) (.func (.yield l.k) #[] #[])
inductive V2 (ρ : Ren) : Value → Value → Prop where
  | base {v v' : Value} (h : V1 ρ v v') : V2 ρ v v'
  | agg {cs cs' : List Value} (h : All2 (V1 ρ) cs cs') : V2 ρ (.agg ⟨cs⟩) (.agg ⟨cs'⟩)
inductive VR (ρ : Ren) : Value → Value → Prop where
  | base {v v' : Value} (h : V2 ρ v v') : VR ρ v v'
  | tuple {vs vs' : List Value} (h : All2 (V2 ρ) vs vs') : VR ρ (.tuple ⟨vs⟩) (.tuple ⟨vs'⟩)

theorem V0.mono {ρ ρ' : Ren} (hs : Sub ρ ρ') {v v' : Value} (h : V0 ρ v v') : V0 ρ' v v' := by
  cases h with
  | same h => exact .same h
  | ptr h => exact .ptr (hs _ _ h)
  | sliceK h => exact .sliceK (hs _ _ h)
  | sliceU h hn hf => exact .sliceU (hs _ _ h) hn hf
  | sliceE h => exact .sliceE (hs _ _ h)
theorem V1.mono {ρ ρ' : Ren} (hs : Sub ρ ρ') {v v' : Value} (h : V1 ρ v v') : V1 ρ' v v' := by
  cases h with
  | base h => exact .base (h.mono hs)
  | fn h k => exact .fn (h.mono fun _ _ h => h.mono hs) (k.mono fun _ _ h => h.mono hs)
  | yl h => exact .yl (hs _ _ h)
theorem V2.mono {ρ ρ' : Ren} (hs : Sub ρ ρ') {v v' : Value} (h : V2 ρ v v') : V2 ρ' v v' := by
  cases h with
  | base h => exact .base (h.mono hs)
  | agg h => exact .agg (h.mono fun _ _ h => h.mono hs)
theorem VR.mono {ρ ρ' : Ren} (hs : Sub ρ ρ') {v v' : Value} (h : VR ρ v v') : VR ρ' v v' := by
  cases h with
  | base h => exact .base (h.mono hs)
  | tuple h => exact .tuple (h.mono fun _ _ h => h.mono hs)

theorem VR.of0 {ρ : Ren} {v v' : Value} (h : V0 ρ v v') : VR ρ v v' := .base (.base (.base h))
theorem VR.of1 {ρ : Ren} {v v' : Value} (h : V1 ρ v v') : VR ρ v v' := .base (.base h)

theorem V0.plain_eq {ρ : Ren} {v v' : Value} (h : V0 ρ v v') (hp : plain1 v = true) : v' = v := by
  cases h with
  | same _ => rfl
  | ptr _ => simp [plain1] at hp
  | sliceK _ => simp [plain1] at hp
  | sliceU _ _ _ => simp [plain1] at hp
  | sliceE _ => simp [plain1] at hp
theorem V1.plain_eq {ρ : Ren} {v v' : Value} (h : V1 ρ v v') (hp : plain1 v = true) : v' = v := by
  cases h with
  | base h => exact h.plain_eq hp
  | @fn g as bs as' bs' h k =>
    cases h with
    | nil =>
      cases k with
      | nil => rfl
      | cons _ _ => simp [plain1] at hp
    | cons _ _ => simp [plain1] at hp
  | yl _ => simp [plain1] at hp
theorem all2_plain_eq {ρ : Ren} {R : Value → Value → Prop} {p : Value → Bool} (hR : ∀ v v', R v v' → p v = true → v' = v) : ∀ {as bs : List Value}, All2 R as bs → as.all p = true → bs = as
  | _, _, .nil, _ => rfl
  | _, _, .cons h t, ha => by
    simp at ha
    rw [hR _ _ h ha.1, all2_plain_eq (ρ := ρ) hR t (by simpa using ha.2)]
theorem V2.plain_eq {ρ : Ren} {v v' : Value} (h : V2 ρ v v') (hp : plain2 v = true) : v' = v := by
  cases h with
  | base h =>
    refine h.plain_eq ?_
    cases h with
    | base h => cases h <;> first | assumption | simpa [plain2] using hp
    | fn _ _ => simpa [plain2] using hp
    | yl _ => simpa [plain2] using hp
  | agg h => rw [all2_plain_eq (ρ := ρ) (fun _ _ h hp => V1.plain_eq h hp) h (by simpa [plain2] using hp)]
theorem plain2_of1 {v : Value} (h : plain1 v = true) : plain2 v = true := by
  cases v <;> simp_all [plain1, plain2]
theorem VR.plain_eq {ρ : Ren} {v v' : Value} (h : VR ρ v v') (hp : plain v = true) : v' = v := by
  cases h with
  | base h =>
    refine h.plain_eq ?_
    cases h with
    | base h =>
      cases h with
      | base h => cases h <;> first | exact plain2_of1 ‹_› | simpa [plain] using hp
      | fn _ _ => simpa [plain] using hp
      | yl _ => simpa [plain] using hp
    | agg _ => simpa [plain] using hp
  | tuple h => rw [all2_plain_eq (ρ := ρ) (fun _ _ h hp => V2.plain_eq h hp) h (by simpa [plain] using hp)]

theorem V1.of_plain {ρ : Ren} {v : Value} (h : plain1 v = true) : V1 ρ v v := .base (.same h)
theorem V2.of_plain {ρ : Ren} {v : Value} (h : plain2 v = true) : V2 ρ v v := by
  cases v with
  | agg cs =>
    obtain ⟨cs⟩ := cs
    exact .agg (All2.refl_of _ fun a ha => V1.of_plain (by simp [plain2] at h; exact h a ha))
  | _ => exact .base (V1.of_plain (by simpa [plain2] using h))
theorem VR.of_plain {ρ : Ren} {v : Value} (h : plain v = true) : VR ρ v v := by
  cases v with
  | tuple cs =>
    obtain ⟨cs⟩ := cs
    exact .tuple (All2.refl_of _ fun a ha => V2.of_plain (by simp [plain] at h; exact h a ha))
  | _ => exact .base (V2.of_plain (by simpa [plain] using h))
theorem VR.undef {ρ : Ren} : VR ρ undef undef := VR.of_plain rfl

/-! ### What stands behind a reading of a known form -/
theorem VR.int {ρ : Ren} {k : IntKind} {n : Int} {v' : Value} (h : VR ρ (.int k n) v') : v' = .int k n := h.plain_eq rfl
theorem VR.bool {ρ : Ren} {b : Bool} {v' : Value} (h : VR ρ (.bool b) v') : v' = .bool b := h.plain_eq rfl
theorem VR.str {ρ : Ren} {s : ByteArray} {v' : Value} (h : VR ρ (.string s) v') : v' = .string s := h.plain_eq rfl
theorem VR.to2 {ρ : Ren} {v v' : Value} (h : VR ρ v v') (hn : ∀ vs, v ≠ .tuple vs) : V2 ρ v v' := by
  cases h with
  | base h => exact h
  | tuple _ => exact absurd rfl (hn _)
theorem VR.to1 {ρ : Ren} {v v' : Value} (h : VR ρ v v') (hn : ∀ vs, v ≠ .tuple vs) (hm : ∀ vs, v ≠ .agg vs) : V1 ρ v v' := by
  cases h.to2 hn with
  | base h => exact h
  | agg _ => exact absurd rfl (hm _)
theorem VR.to0 {ρ : Ren} {v v' : Value} (h : VR ρ v v') (hn : ∀ vs, v ≠ .tuple vs) (hm : ∀ vs, v ≠ .agg vs) (hf : ∀ g a b, v ≠ .func g a b) : V0 ρ v v' := by
  cases h.to1 hn hm with
  | base h => exact h
  | fn _ _ => exact absurd rfl (hf _ _ _)
  | yl _ => exact absurd rfl (hf _ _ _)
theorem VR.ptr {ρ : Ren} {id off : Nat} {v' : Value} (h : VR ρ (.pointer (some ⟨id, off, none⟩)) v') : ∃ l, ρ id = some l ∧ v' = .pointer (some ⟨l.k, l.d + off, none⟩) := by
  have h0 := h.to0 (by simp) (by simp) (by simp)
  cases h0 with
  | same h1 => simp [plain1] at h1
  | ptr h1 => exact ⟨_, h1, rfl⟩
theorem VR.sliceK {ρ : Ren} {id off n c : Nat} {v' : Value} (h : VR ρ (.slice (some ⟨id, off, none⟩) n (c + 1)) v') : ∃ l, ρ id = some l ∧ v' = .slice (some ⟨l.k, l.d + off, none⟩) n c := by
  have h0 := h.to0 (by simp) (by simp) (by simp)
  cases h0 with
  | same h1 => simp [plain1] at h1
  | sliceK h1 => exact ⟨_, h1, rfl⟩
theorem VR.sliceU {ρ : Ren} {id off n : Nat} {v' : Value} (h : VR ρ (.slice (some ⟨id, off, none⟩) n 0) v') :
    ∃ l, ρ id = some l ∧ ((∃ cap, n ≤ cap ∧ l.d + off + cap * l.es = l.fin ∧ v' = .slice (some ⟨l.k, l.d + off, none⟩) n cap) ∨ (n = 0 ∧ ∃ a, v' = .slice (some a) 0 0)) := by
  have h0 := h.to0 (by simp) (by simp) (by simp)
  cases h0 with
  | same h1 => simp [plain1] at h1
  | sliceU h1 hn hf => exact ⟨_, h1, .inl ⟨_, hn, hf, rfl⟩⟩
  | sliceE h1 => exact ⟨_, h1, .inr ⟨rfl, _, rfl⟩⟩
/-- A slice with an address, whatever is known of its cap: it stands behind an address, at the same place unless it is empty. -/
theorem VR.slice {ρ : Ren} {id off n c : Nat} {v' : Value} (h : VR ρ (.slice (some ⟨id, off, none⟩) n c) v') :
    ∃ l a cap, ρ id = some l ∧ v' = .slice (some a) n cap ∧ (n = 0 ∨ a = ⟨l.k, l.d + off, none⟩) := by
  have h0 := h.to0 (by simp) (by simp) (by simp)
  cases h0 with
  | same h1 => simp [plain1] at h1
  | sliceK h1 => exact ⟨_, _, _, h1, rfl, .inr rfl⟩
  | sliceU h1 hn hf => exact ⟨_, _, _, h1, rfl, .inr rfl⟩
  | sliceE h1 => exact ⟨_, _, _, h1, rfl, .inl rfl⟩
theorem VR.agg {ρ : Ren} {cs : List Value} {v' : Value} (h : VR ρ (.agg ⟨cs⟩) v') : ∃ cs', v' = .agg ⟨cs'⟩ ∧ All2 (V1 ρ) cs cs' := by
  have h0 := h.to2 (by simp)
  cases h0 with
  | base h1 =>
    cases h1 with
    | base h2 => cases h2 with | same h3 => simp [plain1] at h3
  | agg h1 => exact ⟨_, rfl, h1⟩
theorem VR.tup {ρ : Ren} {cs : List Value} {v' : Value} (h : VR ρ (.tuple ⟨cs⟩) v') : ∃ cs', v' = .tuple ⟨cs'⟩ ∧ All2 (V2 ρ) cs cs' := by
  cases h with
  | base h =>
    cases h with
    | base h =>
      cases h with
      | base h => cases h with | same h => simp [plain1] at h
  | tuple h => exact ⟨_, rfl, h⟩
theorem V1.func {ρ : Ren} {g : FuncId} {as bs : List Value} {v' : Value} (h : V1 ρ (.func (.func g) ⟨as⟩ ⟨bs⟩) v') : ∃ as' bs', v' = .func (.func g) ⟨as'⟩ ⟨bs'⟩ ∧ All2 (V0 ρ) as as' ∧ All2 (V0 ρ) bs bs' := by
  cases h with
  | base h =>
    cases h with
    | same h =>
      cases as with
      | nil =>
        cases bs with
        | nil => exact ⟨[], [], rfl, .nil, .nil⟩
        | cons _ _ => simp [plain1] at h
      | cons _ _ => simp [plain1] at h
  | fn h k => exact ⟨_, _, rfl, h, k⟩
theorem VR.func {ρ : Ren} {g : FuncId} {as bs : List Value} {v' : Value} (h : VR ρ (.func (.func g) ⟨as⟩ ⟨bs⟩) v') : ∃ as' bs', v' = .func (.func g) ⟨as'⟩ ⟨bs'⟩ ∧ All2 (V0 ρ) as as' ∧ All2 (V0 ρ) bs bs' :=
  (h.to1 (by simp) (by simp)).func

theorem V1.yl_inv {ρ : Ren} {id : Nat} {v v' : Value} (h : V1 ρ v v') (e : v = .func (.yield id) ⟨[]⟩ ⟨[]⟩) : ∃ l, ρ id = some l ∧ v' = .func (.yield l.k) #[] #[] := by
  cases h with
  | base h1 =>
    subst e
    cases h1 with
    | same h2 => exact absurd (show false = true from h2) (by decide)
  | fn h1 h2 => cases e
  | yl h1 => cases e; exact ⟨_, h1, rfl⟩
theorem VR.yl {ρ : Ren} {id : Nat} {v' : Value} (h : VR ρ (.func (.yield id) ⟨[]⟩ ⟨[]⟩) v') : ∃ l, ρ id = some l ∧ v' = .func (.yield l.k) #[] #[] :=
  (h.to1 (by simp) (by simp)).yl_inv rfl

/-- A value's cells. -/
theorem V1.oneCell {ρ : Ren} {v v' : Value} (h : V1 ρ v v') : v'.oneCell' = true ∧ vcells v' = [v'] ∧ vcells v = [v] ∧ v'.cells = #[v'] := by
  cases h with
  | base h =>
    cases h with
    | @same v h => cases v <;> simp_all [plain1, Value.oneCell', vcells, Value.cells]
    | ptr _ => exact ⟨rfl, rfl, rfl, rfl⟩
    | sliceK _ => exact ⟨rfl, rfl, rfl, rfl⟩
    | sliceU _ _ _ => exact ⟨rfl, rfl, rfl, rfl⟩
    | sliceE _ => exact ⟨rfl, rfl, rfl, rfl⟩
  | fn _ _ => exact ⟨rfl, rfl, rfl, rfl⟩
  | yl _ => exact ⟨rfl, rfl, rfl, rfl⟩
theorem V2.cells {ρ : Ren} {v v' : Value} (h : V2 ρ v v') : All2 (V1 ρ) (vcells v) v'.cells.toList := by
  cases h with
  | base h =>
    have := h.oneCell
    rw [this.2.2.1, this.2.2.2]
    exact .cons h .nil
  | agg h => exact h

/-! ## Blocks and worlds -/
def live : Blk → Bool
  | .dead => false
  | _ => true
def ownB : Blk → Bool
  | .cells _ _ own _ _ => own
  | .dead => false
  | _ => true

/-- A frame's temporaries. -/
structure TmRel (ρ : Ren) (f : Fr) (tmps : Array Value) : Prop where
  size : tmps.size = f.n
  small : f.n ≤ bound
  get : ∀ t, VR ρ (f.get t) (tmps.getD t undef)
theorem TmRel.mono {ρ ρ' : Ren} {f : Fr} {a : Array Value} (h : TmRel ρ f a) (hs : Sub ρ ρ') : TmRel ρ' f a := ⟨h.size, h.small, fun t => (h.get t).mono hs⟩
def codeOf : Ex → Code
  | .normal => .skip
  | .exit i => .exit i
  | .ret => .ret
/-- A loop's record. -/
structure LoopRel (ρ : Ren) (st : LoopState) (pend : Option Ex) (d : LoopD) (rec : Loop) : Prop where
  state : rec.state = st
  pending : rec.pending = pend.map codeOf
  fr : TmRel ρ d.fr rec.tmps
  params : rec.params.toList = d.params
  assign : rec.assign = d.assign
  body : rec.body = d.body
theorem LoopRel.mono {ρ ρ' : Ren} {st : LoopState} {pend : Option Ex} {d : LoopD} {rec : Loop} (h : LoopRel ρ st pend d rec) (hs : Sub ρ ρ') : LoopRel ρ' st pend d rec :=
  ⟨h.state, h.pending, h.fr.mono hs, h.params, h.assign, h.body⟩

structure CellsRel (B : Nat) (ρ : Ren) (w : World) (id : Nat) (c : List Value) (es : Nat) (own : Bool) (l : Pl) : Prop where
  at_ : ρ id = some l
  es_ : l.es = es
  own_ : own = true → B ≤ l.k
  lt : l.k < w.heap.size
  is_ : ∃ c' t fz, w.heap[l.k]? = some (.cells c' t fz)
  there : ∀ j, j < l.fin ∨ j < l.d + c.length → (w.cell? ⟨l.k, j, none⟩).isSome = true
  free : own = true → ∀ j, j < l.fin ∨ j < l.d + c.length → w.frozen? ⟨l.k, j, none⟩ = false
  val : ∀ i v, c[i]? = some v → ∃ v', w.cell? ⟨l.k, l.d + i, none⟩ = some v' ∧ V1 ρ v v'
  fits : l.d + c.length ≤ l.fin

def BlkRel (B : Nat) (ρ : Ren) (w : World) (id : Nat) : Blk → Prop
  | .dead => True
  | .cells c es own _ _ => ∃ l, CellsRel B ρ w id c es own l
  | .iter s pos => ∃ l, ρ id = some l ∧ l.d = 0 ∧ B ≤ l.k ∧ l.k < w.heap.size ∧ w.heap[l.k]? = some (.stringIter s pos)
  | .lp st pend d => ∃ l, ρ id = some l ∧ l.d = 0 ∧ B ≤ l.k ∧ l.k < w.heap.size ∧ ∃ rec, w.heap[l.k]? = some (.loop rec) ∧ LoopRel ρ st pend d rec
  | .df => ∃ l, ρ id = some l ∧ l.d = 0 ∧ B ≤ l.k ∧ l.k < w.heap.size ∧ w.heap[l.k]? = some (.deferred (some []))

/-- Block i may be an elder part of block j. -/
def Under (i : Nat) (bi bj : Blk) (li lj : Pl) : Prop := match bi, bj with
  | .cells ci _ _ true _, .cells cj _ _ _ pj => i ∈ pj ∧ li.d + ci.length ≤ lj.d + cj.length
  | _, _ => False

structure Rel (G B : Nat) (w0 : World) (ρ : Ren) (h : T Blk) (w : World) : Prop where
  below : Below B w0 w
  size : B ≤ w.heap.size
  glob : ∀ g, g < G → ∃ l, ρ g = some l ∧ l.k = g ∧ l.d = 0
  blk : ∀ id b, h.get id = some b → BlkRel B ρ w id b
  sep : ∀ i j bi bj li lj, i ≠ j → h.get i = some bi → h.get j = some bj → live bi = true → live bj = true → (ownB bi = true ∨ ownB bj = true) →
    ρ i = some li → ρ j = some lj → li.k = lj.k → Under i bi bj li lj ∨ Under j bj bi lj li

def Ext (ρ ρ' : Ren) (lo hi : Nat) : Prop := ∀ id, ρ' id = ρ id ∨ (ρ id = none ∧ lo ≤ id ∧ id < hi)
theorem Ext.refl (ρ : Ren) (lo hi : Nat) : Ext ρ ρ lo hi := fun _ => .inl rfl
theorem Ext.sub {ρ ρ' : Ren} {lo hi : Nat} (h : Ext ρ ρ' lo hi) : Sub ρ ρ' := fun id l hl => by
  rcases h id with e | ⟨e, _⟩
  · rw [e]; exact hl
  · rw [e] at hl; cases hl
theorem Ext.trans {ρ ρ' ρ'' : Ren} {a b c : Nat} (hab : a ≤ b) (hbc : b ≤ c) (h : Ext ρ ρ' a b) (k : Ext ρ' ρ'' b c) : Ext ρ ρ'' a c := fun id => by
  rcases h id with e | ⟨e, h1, h2⟩
  · rcases k id with e' | ⟨e', h1, h2⟩
    · exact .inl (e'.trans e)
    · exact .inr ⟨by rw [← e]; exact e', by omega, h2⟩
  · exact .inr ⟨e, h1, by omega⟩
def Fresh (ρ : Ren) (lo hi : Nat) : Prop := ∀ id, lo ≤ id → id < hi → ρ id = none
theorem Fresh.left {ρ : Ren} {a b c : Nat} (h : Fresh ρ a c) (hbc : b ≤ c) : Fresh ρ a b := fun id h1 h2 => h id h1 (by omega)
theorem Fresh.right {ρ ρ' : Ren} {a b c : Nat} (h : Fresh ρ a c) (hab : a ≤ b) (k : Ext ρ ρ' a b) : Fresh ρ' b c := fun id h1 h2 => by
  rcases k id with e | ⟨_, _, h3⟩
  · rw [e]; exact h id (by omega) h2
  · omega

theorem CellsRel.mono {B : Nat} {ρ ρ' : Ren} {w w' : World} {id : Nat} {c : List Value} {es : Nat} {own : Bool} {l : Pl} (h : CellsRel B ρ w id c es own l) (hs : Sub ρ ρ')
    (hsz : w.heap.size ≤ w'.heap.size) (hk : w'.heap[l.k]? = w.heap[l.k]?) : CellsRel B ρ' w' id c es own l :=
  ⟨hs _ _ h.at_, h.es_, h.own_, Nat.lt_of_lt_of_le h.lt hsz, by rw [hk]; exact h.is_,
   fun j hj => by rw [World.cell?_of_block (w := w) hk]; exact h.there j hj,
   fun ho j hj => by rw [World.frozen?_of_block (w := w) hk]; exact h.free ho j hj,
   fun i v hv => by
    obtain ⟨v', h1, h2⟩ := h.val i v hv
    exact ⟨v', by rw [World.cell?_of_block (w := w) hk]; exact h1, h2.mono hs⟩, h.fits⟩
theorem BlkRel.mono {B : Nat} {ρ ρ' : Ren} {w w' : World} {id : Nat} {b : Blk} (h : BlkRel B ρ w id b) (hs : Sub ρ ρ') (hsz : w.heap.size ≤ w'.heap.size)
    (hk : ∀ l, ρ id = some l → l.k < w.heap.size → w'.heap[l.k]? = w.heap[l.k]?) : BlkRel B ρ' w' id b := by
  cases b with
  | dead => trivial
  | cells c es own old par =>
    obtain ⟨l, h⟩ := h
    exact ⟨l, h.mono hs hsz (hk l h.at_ h.lt)⟩
  | iter s pos =>
    obtain ⟨l, h1, h2, h3, h4, h5⟩ := h
    exact ⟨l, hs _ _ h1, h2, h3, Nat.lt_of_lt_of_le h4 hsz, by rw [hk l h1 h4]; exact h5⟩
  | lp st pend d =>
    obtain ⟨l, h1, h2, h3, h4, rec, h5, h6⟩ := h
    exact ⟨l, hs _ _ h1, h2, h3, Nat.lt_of_lt_of_le h4 hsz, rec, by rw [hk l h1 h4]; exact h5, h6.mono hs⟩
  | df =>
    obtain ⟨l, h1, h2, h3, h4, h5⟩ := h
    exact ⟨l, hs _ _ h1, h2, h3, Nat.lt_of_lt_of_le h4 hsz, by rw [hk l h1 h4]; exact h5⟩
/-- Where a live block stands. -/
theorem BlkRel.place {B : Nat} {ρ : Ren} {w : World} {id : Nat} {b : Blk} (h : BlkRel B ρ w id b) (hl : live b = true) : ∃ l, ρ id = some l ∧ l.k < w.heap.size ∧ (ownB b = true → B ≤ l.k) := by
  cases b with
  | dead => cases hl
  | cells c es own old par =>
    obtain ⟨l, h⟩ := h
    exact ⟨l, h.at_, h.lt, h.own_⟩
  | iter s pos =>
    obtain ⟨l, h1, h2, h3, h4, h5⟩ := h
    exact ⟨l, h1, h4, fun _ => h3⟩
  | lp st pend d =>
    obtain ⟨l, h1, h2, h3, h4, rec, h5, h6⟩ := h
    exact ⟨l, h1, h4, fun _ => h3⟩
  | df =>
    obtain ⟨l, h1, h2, h3, h4, h5⟩ := h
    exact ⟨l, h1, h4, fun _ => h3⟩

theorem size_alloc' (w : World) (o : Obj) : (w.alloc o).heap.size = w.heap.size + 1 := by
  show (w.heap.push o).size = _
  simp

section
variable {G B : Nat} {w0 w : World} {ρ : Ren} {h : T Blk}

theorem Rel.congr (r : Rel G B w0 ρ h w) {h' : T Blk} (e : ∀ id, h'.get id = h.get id) : Rel G B w0 ρ h' w :=
  ⟨r.below, r.size, r.glob, fun id b hb => r.blk id b (by rw [← e]; exact hb), fun i j bi bj li lj hne hi hj => r.sep i j bi bj li lj hne (by rw [← e]; exact hi) (by rw [← e]; exact hj)⟩

theorem Rel.drew (r : Rel G B w0 ρ h w) : Rel G B w0 ρ h w.drew :=
  ⟨r.below.drew, r.size, r.glob, fun id b hb => (r.blk id b hb).mono (fun _ _ h => h) (Nat.le_refl _) (fun _ _ _ => rfl), r.sep⟩

/-- A new block. -/
theorem Rel.new (r : Rel G B w0 ρ h w) {id : Nat} (hid : Nat.blt id bound = true) (hG : G ≤ id) (hf : ρ id = none) (o : Obj) (b : Blk) (l : Pl) (hlk : l.k = w.heap.size)
    (hb : BlkRel B (fun x => if x = id then some l else ρ x) (w.alloc o) id b) : Rel G B w0 (fun x => if x = id then some l else ρ x) (h.set b 64 id) (w.alloc o) := by
  have hs : Sub ρ (fun x => if x = id then some l else ρ x) := fun x y hx => by
    dsimp only
    rw [if_neg (by rintro rfl; rw [hf] at hx; cases hx)]
    exact hx
  refine ⟨r.below.alloc r.size o, by rw [size_alloc']; exact Nat.le_succ_of_le r.size, fun g hg => ?_, fun x bx hx => ?_, fun i j bi bj li lj hne hi hj vi vj ho ρi ρj hk => ?_⟩
  · obtain ⟨l', h1, h2⟩ := r.glob g hg
    exact ⟨l', hs _ _ h1, h2⟩
  · rw [T.get_set _ _ _ _ hid] at hx
    split at hx
    · rename_i e; subst e; cases hx; exact hb
    · exact (r.blk x bx hx).mono hs (by rw [size_alloc']; exact Nat.le_succ _) (fun l' _ hl' => Below.heap_alloc _ _ _ hl')
  · rw [T.get_set _ _ _ _ hid] at hi hj
    try dsimp only at ρi ρj
    split at hi
    · rename_i e
      subst e
      rw [if_neg (Ne.symm hne)] at hj ρj
      rw [if_pos rfl] at ρi
      cases ρi
      obtain ⟨l', h1, h2, _⟩ := (r.blk j bj hj).place vj
      rw [h1] at ρj
      cases ρj
      omega
    · rename_i e
      rw [if_neg e] at ρi
      split at hj
      · rename_i e'
        subst e'
        rw [if_pos rfl] at ρj
        cases ρj
        obtain ⟨l', h1, h2, _⟩ := (r.blk i bi hi).place vi
        rw [h1] at ρi
        cases ρi
        omega
      · rename_i e'
        rw [if_neg e'] at ρj
        exact r.sep i j bi bj li lj hne hi hj vi vj ho ρi ρj hk

/-- Some blocks are told no longer. -/
theorem Rel.kill (r : Rel G B w0 ρ h w) {h' : T Blk} (e : ∀ id, h'.get id = h.get id ∨ h'.get id = some .dead) : Rel G B w0 ρ h' w := by
  refine ⟨r.below, r.size, r.glob, fun id b hb => ?_, fun i j bi bj li lj hne hi hj vi vj => ?_⟩
  · rcases e id with e | e
    · exact r.blk id b (by rw [← e]; exact hb)
    · rw [e] at hb; cases hb; trivial
  · have hi' : h.get i = some bi := by
      rcases e i with e | e
      · rw [← e]; exact hi
      · rw [e] at hi; cases hi; cases vi
    have hj' : h.get j = some bj := by
      rcases e j with e | e
      · rw [← e]; exact hj
      · rw [e] at hj; cases hj; cases vj
    exact r.sep i j bi bj li lj hne hi' hj' vi vj
end

theorem below_setCells' {B b : Nat} {a : World} (hb : B ≤ b) : ∀ (vs : List Value) (o : Nat) (w : World), Below B a w → Below B a (w.setCells b o vs)
  | [], _, _, h => h
  | v :: vs, o, w, h => below_setCells' hb vs (o + 1) _ (h.setCell (p := ⟨b, o, none⟩) hb v)
theorem size_setCells' (b : Nat) : ∀ (vs : List Value) (o : Nat) (w : World), (w.setCells b o vs).heap.size = w.heap.size
  | [], _, _ => rfl
  | v :: vs, o, w => by rw [World.setCells, size_setCells' b vs]; simp [World.setCell]
theorem heap_setCells' (b : Nat) {k : Nat} (hk : k ≠ b) : ∀ (vs : List Value) (o : Nat) (w : World), (w.setCells b o vs).heap[k]? = w.heap[k]?
  | [], _, _ => rfl
  | v :: vs, o, w => by rw [World.setCells, heap_setCells' b hk vs]; exact Below.heap_setCell _ _ _ _ hk
theorem is_setCells' (b : Nat) : ∀ (vs : List Value) (o : Nat) (w : World), (∃ c' t fz, w.heap[b]? = some (.cells c' t fz)) → ∃ c' t fz, (w.setCells b o vs).heap[b]? = some (.cells c' t fz)
  | [], _, _, h => h
  | v :: vs, o, w, ⟨c, t, fz, h⟩ => by
    rw [World.setCells]
    refine is_setCells' b vs _ _ ⟨c.setIfInBounds o v, t, fz, ?_⟩
    simp only [World.setCell, Array.getElem?_modify, h]
    simp
theorem isSome_setCells' (b : Nat) : ∀ (vs : List Value) (o : Nat) (w : World) (x : Addr), (w.cell? x).isSome = true → ((w.setCells b o vs).cell? x).isSome = true
  | [], _, _, _, h => h
  | v :: vs, o, w, x, h => by
    rw [World.setCells]
    refine isSome_setCells' b vs _ _ _ ?_
    by_cases e : (⟨b, o, none⟩ : Addr) = x
    · subst e
      obtain ⟨u, hu⟩ := Option.isSome_iff_exists.1 h
      rw [World.cell?_setCell_same _ _ _ hu]; rfl
    · rw [World.cell?_setCell_other _ _ _ _ e]; exact h

/-! ## Splices -/
theorem splice_length : ∀ (c : List Value) (o : Nat) (vs : List Value), (splice c o vs).length = c.length
  | c, _, [] => by cases c <;> rfl
  | [], _, _ :: _ => rfl
  | _ :: c, 0, v :: vs => by simp [splice, splice_length c 0 vs]
  | _ :: c, o + 1, v :: vs => by simp [splice, splice_length c o (v :: vs)]
theorem splice_out : ∀ (c : List Value) (o : Nat) (vs : List Value) (i : Nat), i < o ∨ o + vs.length ≤ i → (splice c o vs)[i]? = c[i]?
  | c, _, [], _, _ => by cases c <;> rfl
  | [], _, _ :: _, _, _ => rfl
  | x :: c, 0, v :: vs, i, h => by
    cases i with
    | zero => simp at h
    | succ i => simp [splice]; exact splice_out c 0 vs i (by simp at h; omega)
  | x :: c, o + 1, v :: vs, i, h => by
    cases i with
    | zero => simp [splice]
    | succ i => simp [splice]; exact splice_out c o (v :: vs) i (by simp at h ⊢; omega)
theorem splice_in : ∀ (c : List Value) (o : Nat) (vs : List Value) (j : Nat), j < vs.length → o + vs.length ≤ c.length → (splice c o vs)[o + j]? = vs[j]?
  | c, _, [], _, h, _ => by simp at h
  | [], _, _ :: _, _, _, h => by simp at h
  | x :: c, 0, v :: vs, j, h, hl => by
    cases j with
    | zero => simp [splice]
    | succ j => simp [splice]; have := splice_in c 0 vs j (by simpa using h) (by simp at hl ⊢; omega); simpa using this
  | x :: c, o + 1, v :: vs, j, h, hl => by
    have := splice_in c o (v :: vs) j h (by simp at hl ⊢; omega)
    rw [show o + 1 + j = (o + j) + 1 by omega]
    simp [splice]
    simpa using this

section
variable {G B : Nat} {w0 w : World} {ρ : Ren} {h : T Blk}
/-- A store into a block that has no younger one. -/
theorem Rel.write (r : Rel G B w0 ρ h w) {id : Nat} {c : List Value} {es : Nat} {par : List Nat} (hid : h.get id = some (.cells c es true false par)) {l : Pl} (hl : ρ id = some l)
    (off : Nat) {vs vs' : List Value} (hv : All2 (V1 ρ) vs vs') (hle : off + vs.length ≤ c.length) {h' : T Blk}
    (e1 : h'.get id = some (.cells (splice c off vs) es true false []) ∨ h'.get id = some .dead) (e2 : ∀ x, x ≠ id → x ∈ par → h'.get x = some .dead) (e3 : ∀ x, x ≠ id → x ∉ par → h'.get x = h.get x) :
    Rel G B w0 ρ h' (w.setCells l.k (l.d + off) vs') := by
  obtain ⟨l', cr⟩ := r.blk id _ hid
  have : l' = l := by have := cr.at_; rw [hl] at this; cases this; rfl
  subst this
  have hlen := hv.length
  -- another live block does not stand there
  have far : ∀ x b, x ≠ id → h'.get x = some b → live b = true → ∀ lx, ρ x = some lx → h.get x = some b ∧ lx.k ≠ l'.k := by
    intro x b hx hb vb lx hlx
    by_cases hp : x ∈ par
    · rw [e2 x hx hp] at hb; cases hb; cases vb
    · rw [e3 x hx hp] at hb
      refine ⟨hb, fun hk => ?_⟩
      rcases r.sep x id b _ lx l' hx hb hid vb rfl (.inr rfl) hlx hl hk with hu | hu
      · unfold Under at hu
        split at hu
        · rename_i hb'; cases hb'; exact hp hu.1
        · exact hu
      · unfold Under at hu
        split at hu
        · rename_i h1 h2; cases h2
        · exact hu
  refine ⟨below_setCells' (cr.own_ rfl) _ _ _ r.below, by rw [size_setCells']; exact r.size, r.glob, fun x b hb => ?_, fun i j bi bj li lj hne hi hj vi vj ho ρi ρj hk => ?_⟩
  · by_cases hx : x = id
    · subst hx
      rcases e1 with e1 | e1
      · rw [e1] at hb
        cases hb
        refine ⟨l', hl, cr.es_, cr.own_, by rw [size_setCells']; exact cr.lt, is_setCells' _ _ _ _ cr.is_, fun j hj => ?_, fun ho j hj => ?_, fun i v hi => ?_, by rw [splice_length]; exact cr.fits⟩
        · exact isSome_setCells' _ _ _ _ _ (cr.there j (by rwa [splice_length] at hj))
        · rw [World.frozen?_setCells]; exact cr.free rfl j (by rwa [splice_length] at hj)
        · by_cases hin : off ≤ i ∧ i < off + vs.length
          · obtain ⟨j, rfl⟩ : ∃ j, i = off + j := ⟨i - off, by omega⟩
            rw [splice_in c off vs j (by omega) hle] at hi
            obtain ⟨v', h1, h2⟩ := hv.get j v hi
            have hj' : j < vs'.length := by omega
            have := World.cell?_setCells_in l'.k vs' (l'.d + off) w (fun q hq => cr.there _ (.inr (by omega))) j hj'
            rw [show l'.d + (off + j) = l'.d + off + j by omega, this]
            rw [List.getElem?_eq_getElem hj'] at h1
            exact ⟨v', h1, h2⟩
          · rw [splice_out c off vs i (by omega)] at hi
            obtain ⟨v', h1, h2⟩ := cr.val i v hi
            refine ⟨v', ?_, h2⟩
            rw [World.cell?_setCells_out _ _ _ _ _ (fun _ _ => by simp; omega)]
            exact h1
      · rw [e1] at hb; cases hb; trivial
    · cases hv' : live b with
      | false => cases b <;> first | trivial | cases hv'
      | true =>
        have hb0 : ∃ lx, ρ x = some lx := by
          by_cases hp : x ∈ par
          · rw [e2 x hx hp] at hb; cases hb; cases hv'
          · rw [e3 x hx hp] at hb
            obtain ⟨lx, h1, _⟩ := (r.blk x b hb).place hv'
            exact ⟨lx, h1⟩
        obtain ⟨lx, hlx⟩ := hb0
        obtain ⟨hb1, hne⟩ := far x b hx hb hv' lx hlx
        refine (r.blk x b hb1).mono (fun _ _ h => h) (by rw [size_setCells']; exact Nat.le_refl _) (fun ly hly _ => ?_)
        rw [hlx] at hly; cases hly
        exact heap_setCells' _ hne _ _ _
  · by_cases hi' : i = id
    · subst hi'
      obtain ⟨_, hne'⟩ := far j bj (Ne.symm hne) hj vj lj ρj
      rw [hl] at ρi; cases ρi
      exact absurd hk.symm hne'
    · by_cases hj' : j = id
      · subst hj'
        obtain ⟨_, hne'⟩ := far i bi hi' hi vi li ρi
        rw [hl] at ρj; cases ρj
        exact absurd hk hne'
      · obtain ⟨hi1, _⟩ := far i bi hi' hi vi li ρi
        obtain ⟨hj1, _⟩ := far j bj hj' hj vj lj ρj
        exact r.sep i j bi bj li lj hne hi1 hj1 vi vj ho ρi ρj hk
end
end Go.Abs

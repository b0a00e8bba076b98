/- The evaluator, written so that the kernel is quick at it: by recursors, on raw numbers. -/
import Derived.Test.YtffgakphodjbjaaGreatDoorRotAbs
set_option linter.unusedVariables false
namespace Go.Abs
noncomputable section

/-! ## Numbers and values, handed on as normal forms -/
def fnK {β : Type} (n : Nat) (k : Nat → β) : β := Nat.rec (motive := fun _ => β) (k (nat_lit 0)) (fun m _ => k (Nat.succ m)) n
theorem fnK_eq {β : Type} (n : Nat) (k : Nat → β) : fnK n k = k n := by cases n <;> rfl

def fivK {β : Type} (q : IntKind) (n : Int) (k : Value → β) : β := Int.rec (motive := fun _ => β) (fun n => fnK n fun m => k (.int q (.ofNat m))) (fun n => fnK n fun m => k (.int q (.negSucc m))) n
theorem fivK_eq {β : Type} (q : IntKind) (n : Int) (k : Value → β) : fivK q n k = k (.int q n) := by
  cases n <;> (unfold fivK; exact fnK_eq _ _)
def fbvK {β : Type} (b : Bool) (k : Value → β) : β := Bool.rec (motive := fun _ => β) (k (.bool false)) (k (.bool true)) b
theorem fbvK_eq {β : Type} (b : Bool) (k : Value → β) : fbvK b k = k (.bool b) := by cases b <;> rfl
def fvK {β : Type} (v : Value) (k : Value → β) : β := match v with
  | .int q n => fivK q n k
  | .bool b => fbvK b k
  | .pointer (some ⟨id, off, none⟩) => fnK off fun off => k (.pointer (some ⟨id, off, none⟩))
  | .slice (some ⟨id, off, none⟩) n c => fnK off fun off => fnK n fun n => fnK c fun c => k (.slice (some ⟨id, off, none⟩) n c)
  | v => k v
theorem fvK_eq {β : Type} (v : Value) (k : Value → β) : fvK v k = k v := by
  unfold fvK
  split
  · exact fivK_eq _ _ _
  · exact fbvK_eq _ _
  · simp only [fnK_eq]
  · simp only [fnK_eq]
  · rfl

def fif {α : Type} (b : Bool) (t e : α) : α := Bool.rec (motive := fun _ => α) e t b
theorem fif_eq : @fif = @cond := by
  funext α b t e
  cases b <;> rfl

/-! ## Lists -/
def fnth {α : Type} (l : List α) : Nat → Option α :=
  List.rec (motive := fun _ => Nat → Option α) (fun _ => none) (fun a _ ih n => Nat.rec (motive := fun _ => Option α) (some a) (fun m _ => ih m) n) l
theorem fnth_eq {α : Type} : ∀ (l : List α) (n : Nat), fnth l n = l[n]?
  | [], n => rfl
  | a :: l, 0 => rfl
  | a :: l, n + 1 => by
    show fnth l n = _
    rw [fnth_eq l n]; rfl
def fmap {α β : Type} (f : α → β) (l : List α) : List β := List.rec (motive := fun _ => List β) [] (fun a _ ih => f a :: ih) l
theorem fmap_eq {α β : Type} (f : α → β) : ∀ (l : List α), fmap f l = l.map f
  | [] => rfl
  | a :: l => by show f a :: fmap f l = _; rw [fmap_eq f l]; rfl
def fall {α : Type} (p : α → Bool) (l : List α) : Bool := List.rec (motive := fun _ => Bool) true (fun a _ ih => cond (p a) ih false) l
theorem fall_eq {α : Type} (p : α → Bool) : ∀ (l : List α), fall p l = l.all p
  | [] => rfl
  | a :: l => by
    show cond (p a) (fall p l) false = _
    rw [fall_eq p l, List.all_cons]
    cases p a <;> rfl
def flen {α : Type} (l : List α) : Nat := List.rec (motive := fun _ => Nat) (nat_lit 0) (fun _ _ ih => Nat.succ ih) l
theorem flen_eq {α : Type} : ∀ (l : List α), flen l = l.length
  | [] => rfl
  | a :: l => by show Nat.succ (flen l) = _; rw [flen_eq l]; rfl
def fapp {α : Type} (a b : List α) : List α := List.rec (motive := fun _ => List α) b (fun x _ ih => x :: ih) a
theorem fapp_eq {α : Type} : ∀ (a b : List α), fapp a b = a ++ b
  | [], b => rfl
  | x :: a, b => by show x :: fapp a b = _; rw [fapp_eq a b]; rfl
/-- A list of values, handed on as a normal form. -/
def flK {β : Type} (l : List Value) : (List Value → β) → β := List.rec (motive := fun _ => (List Value → β) → β) (fun k => k []) (fun a _ ih k => fvK a fun a => ih fun r => k (a :: r)) l
theorem flK_eq {β : Type} : ∀ (l : List Value) (k : List Value → β), flK l k = k l
  | [], k => rfl
  | a :: l, k => by
    show (fvK a fun a => flK l fun r => k (a :: r)) = _
    rw [fvK_eq, flK_eq l]
/-- A list's spine, handed on. -/
def flKb {α β : Type} (l : List α) : (List α → β) → β := List.rec (motive := fun _ => (List α → β) → β) (fun k => k []) (fun a _ ih k => ih fun r => k (a :: r)) l
theorem flKb_eq {α β : Type} : ∀ (l : List α) (k : List α → β), flKb l k = k l
  | [], k => rfl
  | a :: l, k => by
    show (flKb l fun r => k (a :: r)) = _
    rw [flKb_eq l]
/-- The first n of a list. -/
def ftake {α β : Type} (bad : β) (n : Nat) : List α → (List α → β) → β :=
  Nat.rec (motive := fun _ => List α → (List α → β) → β) (fun _ k => k []) (fun _ ih l k => List.rec (motive := fun _ => β) bad (fun a t _ => ih t fun r => k (a :: r)) l) n
theorem ftake_eq {α β : Type} (bad : β) : ∀ (n : Nat) (l : List α) (k : List α → β), ftake bad n l k = bif Nat.ble n l.length then k (l.take n) else bad
  | 0, l, k => by
    have : Nat.ble 0 l.length = true := Nat.ble_eq_true_of_le (Nat.zero_le _)
    rw [this]; rfl
  | n + 1, [], k => rfl
  | n + 1, a :: l, k => by
    show (ftake bad n l fun r => k (a :: r)) = _
    rw [ftake_eq bad n l]
    rfl
def fwin {α β : Type} (bad : β) (n : Nat) (k : List α → β) (off : Nat) : List α → β :=
  Nat.rec (motive := fun _ => List α → β) (fun l => ftake bad n l k) (fun _ ih l => List.rec (motive := fun _ => β) bad (fun _ t _ => ih t) l) off
theorem fwin_eq {β : Type} (bad : β) (n : Nat) (k : List Value → β) : ∀ (off : Nat) (l : List Value), fwin bad n k off l = (match window l off n with
    | some r => k r
    | none => bad)
  | 0, l => by
    show ftake bad n l k = _
    rw [ftake_eq]
    unfold window
    rw [Nat.zero_add]
    cases Nat.ble n l.length <;> rfl
  | off + 1, [] => by
    show bad = _
    unfold window
    have : Nat.ble (off + 1 + n) ([] : List Value).length = false := by
      rw [Bool.eq_false_iff]; intro h; have := Nat.le_of_ble_eq_true h; simp at this
    rw [this]; rfl
  | off + 1, a :: l => by
    show fwin bad n k off l = _
    rw [fwin_eq bad n k off l]
    unfold window
    have : Nat.ble (off + 1 + n) (a :: l).length = Nat.ble (off + n) l.length := by
      rw [Bool.eq_iff_iff, Nat.ble_eq, Nat.ble_eq]
      simp only [List.length_cons]
      omega
    rw [this]
    rfl
/-- A piece of a row anew. -/
def fover {β : Type} (vs : List Value) : List Value → (List Value → β) → β :=
  List.rec (motive := fun _ => List Value → (List Value → β) → β) (fun xs k => k xs) (fun v _ ih xs k => List.rec (motive := fun _ => β) (k []) (fun _ t _ => fvK v fun v => ih t fun r => k (v :: r)) xs) vs
theorem fover_eq {β : Type} : ∀ (vs xs : List Value) (k : List Value → β), fover vs xs k = k (splice xs 0 vs)
  | [], xs, k => by cases xs <;> rfl
  | v :: vs, [], k => rfl
  | v :: vs, x :: xs, k => by
    show (fvK v fun v => fover vs xs fun r => k (v :: r)) = _
    rw [fvK_eq, fover_eq vs xs]
    rfl
def fsplice {β : Type} (vs : List Value) (o : Nat) : List Value → (List Value → β) → β :=
  Nat.rec (motive := fun _ => List Value → (List Value → β) → β) (fun xs k => fover vs xs k) (fun _ ih xs k => List.rec (motive := fun _ => β) (k []) (fun x t _ => ih t fun r => k (x :: r)) xs) o
theorem splice_nil : ∀ (o : Nat) (vs : List Value), splice [] o vs = []
  | _, [] => by cases ‹Nat› <;> rfl
  | _, _ :: _ => by cases ‹Nat› <;> rfl
theorem splice_none : ∀ (xs : List Value) (o : Nat), splice xs o [] = xs
  | [], o => by cases o <;> rfl
  | x :: xs, o => by cases o <;> rfl
theorem fsplice_eq {β : Type} (vs : List Value) : ∀ (o : Nat) (xs : List Value) (k : List Value → β), fsplice vs o xs k = k (splice xs o vs)
  | 0, xs, k => fover_eq vs xs k
  | o + 1, [], k => by
    show k [] = _
    rw [splice_nil]
  | o + 1, x :: xs, k => by
    show (fsplice vs o xs fun r => k (x :: r)) = _
    rw [fsplice_eq vs o xs]
    cases vs with
    | nil => rw [splice_none, splice_none]
    | cons v vs => rfl
def frep (z : List Value) (n : Nat) : List Value := Nat.rec (motive := fun _ => List Value) [] (fun _ ih => fapp z ih) n
theorem frep_eq (z : List Value) : ∀ (n : Nat), frep z n = repeatA z n
  | 0 => rfl
  | n + 1 => by show fapp z (frep z n) = _; rw [fapp_eq, frep_eq z n]; rfl

/-! ## Tries -/
def T.fget {α : Type} (t : T α) : Nat → Option α :=
  T.rec (motive := fun _ => Nat → Option α) (fun _ => none)
    (fun _ v _ ihl ihr n => Nat.rec (motive := fun _ => Option α) v (fun m _ => Nat.rec (motive := fun _ => Option α) (ihl (Nat.div m (nat_lit 2))) (fun _ _ => ihr (Nat.div m (nat_lit 2))) (Nat.mod m (nat_lit 2))) n) t
theorem mod2_rec {β : Type} (m : Nat) (a b : β) : Nat.rec (motive := fun _ => β) a (fun _ _ => b) (Nat.mod m (nat_lit 2)) = cond (Nat.beq (m % 2) 0) a b := by
  show Nat.rec (motive := fun _ => β) a (fun _ _ => b) (m % 2) = _
  generalize m % 2 = q
  cases q <;> rfl
theorem T.fget_eq {α : Type} : ∀ (t : T α) (n : Nat), t.fget n = t.get n
  | .nil, n => rfl
  | .node l v r, 0 => rfl
  | .node l v r, n + 1 => by
    rw [T.get_succ]
    show Nat.rec (motive := fun _ => Option α) (l.fget (n / 2)) (fun _ _ => r.fget (n / 2)) (Nat.mod n (nat_lit 2)) = _
    rw [mod2_rec, T.fget_eq l, T.fget_eq r]
/-- A key's way down a trie. -/
inductive Pth where
  | e
  | l (p : Pth)
  | r (p : Pth)
  | x
def pathF (f : Nat) : Nat → Pth := Nat.rec (motive := fun _ => Nat → Pth) (fun _ => .x)
  (fun _ ih n => Nat.rec (motive := fun _ => Pth) .e (fun m _ => Nat.rec (motive := fun _ => Pth) (.l (ih (Nat.div m (nat_lit 2)))) (fun _ _ => .r (ih (Nat.div m (nat_lit 2)))) (Nat.mod m (nat_lit 2))) n) f
theorem pathF_succ (f m : Nat) : pathF (f + 1) (m + 1) = cond (Nat.beq (m % 2) 0) (.l (pathF f (m / 2))) (.r (pathF f (m / 2))) := mod2_rec m _ _
def T.getP {α γ : Type} (bad : γ) (k : α → γ) (p : Pth) : T α → γ := Pth.rec (motive := fun _ => T α → γ)
  (fun t => T.rec (motive := fun _ => γ) bad (fun _ v _ _ _ => Option.rec (motive := fun _ => γ) bad k v) t)
  (fun _ ih t => T.rec (motive := fun _ => γ) bad (fun l _ _ _ _ => ih l) t)
  (fun _ ih t => T.rec (motive := fun _ => γ) bad (fun _ _ r _ _ => ih r) t)
  (fun _ => bad) p
theorem T.getP_eq {α γ : Type} (bad : γ) (k : α → γ) : ∀ (f n : Nat) (t : T α), n < f → T.getP bad k (pathF f n) t = Option.rec (motive := fun _ => γ) bad k (t.get n)
  | 0, n, t, h => absurd h (Nat.not_lt_zero _)
  | f + 1, 0, .nil, h => rfl
  | f + 1, 0, .node l v r, h => rfl
  | f + 1, n + 1, .nil, h => by
    rw [pathF_succ]
    cases Nat.beq (n % 2) 0 <;> rfl
  | f + 1, n + 1, .node l v r, h => by
    have h2 : n / 2 < f := by omega
    have el := T.getP_eq bad k f (n / 2) l h2
    have er := T.getP_eq bad k f (n / 2) r h2
    rw [pathF_succ, T.get_succ]
    cases Nat.beq (n % 2) 0
    · exact er
    · exact el
/-- What lies at a key, handed on. -/
def T.getK {α γ : Type} (t : T α) (n : Nat) (bad : γ) (k : α → γ) : γ := T.getP bad k (pathF (Nat.succ n) n) t
theorem T.getK_eq {α γ : Type} (t : T α) (n : Nat) (bad : γ) (k : α → γ) : t.getK n bad k = Option.rec (motive := fun _ => γ) bad k (t.get n) := T.getP_eq bad k (n + 1) n t (Nat.lt_succ_self n)
def T.setP {α β : Type} (v : α) (p : Pth) : T α → (T α → β) → β := Pth.rec (motive := fun _ => T α → (T α → β) → β)
  (fun t k => T.rec (motive := fun _ => β) (k (.node .nil (some v) .nil)) (fun l _ r _ _ => k (.node l (some v) r)) t)
  (fun _ ih t k => T.rec (motive := fun _ => β) (ih .nil fun t' => k (.node t' none .nil)) (fun l o r _ _ => ih l fun t' => k (.node t' o r)) t)
  (fun _ ih t k => T.rec (motive := fun _ => β) (ih .nil fun t' => k (.node .nil none t')) (fun l o r _ _ => ih r fun t' => k (.node l o t')) t)
  (fun t k => k t) p
/-- Keys here are below 2 ^ 60, so 64 levels do. -/
def T.fset {α β : Type} (v : α) (f : Nat) (t : T α) (n : Nat) (k : T α → β) : β := T.setP v (pathF f n) t k
theorem T.fset_eq {α β : Type} (v : α) : ∀ (f : Nat) (t : T α) (n : Nat) (k : T α → β), T.fset v f t n k = k (T.set v f t n)
  | 0, t, n, k => by cases t <;> rfl
  | f + 1, .nil, 0, k => rfl
  | f + 1, .node l o r, 0, k => rfl
  | f + 1, .nil, n + 1, k => by
    have e1 := T.fset_eq v f .nil (n / 2) (fun t' => k (.node t' none .nil))
    have e2 := T.fset_eq v f .nil (n / 2) (fun t' => k (.node .nil none t'))
    unfold T.fset
    rw [pathF_succ, T.set.eq_3]
    cases Nat.beq (n % 2) 0
    · exact e2
    · exact e1
  | f + 1, .node l o r, n + 1, k => by
    have e1 := T.fset_eq v f l (n / 2) (fun t' => k (.node t' o r))
    have e2 := T.fset_eq v f r (n / 2) (fun t' => k (.node l o t'))
    unfold T.fset
    rw [pathF_succ, T.set.eq_5]
    cases Nat.beq (n % 2) 0
    · exact e2
    · exact e1

/-! ## Values by their forms -/
def onInt {γ : Type} (v : Value) (k : IntKind → Int → γ) (no : γ) : γ := Value.rec (motive_1 := fun _ => (IntKind → Int → γ) → γ → γ) (motive_2 := fun _ => Unit) (motive_3 := fun _ => Unit)
  (fun _ _ no => no) (fun q n k _ => k q n) (fun _ _ _ no => no) (fun _ _ _ _ no => no) (fun _ _ no => no) (fun _ _ no => no) (fun _ _ _ _ no => no) (fun _ _ no => no) (fun _ _ no => no) (fun _ _ _ _ _ _ no => no) (fun _ no => no) (fun _ _ _ _ no => no) (fun _ no => no) (fun _ _ _ no => no) (fun _ _ _ no => no) (fun _ _ => ()) () (fun _ _ _ _ => ()) v k no
def onBool {γ : Type} (v : Value) (a b no : γ) : γ := Value.rec (motive_1 := fun _ => γ → γ → γ → γ) (motive_2 := fun _ => Unit) (motive_3 := fun _ => Unit)
  (fun t a b _ => Bool.rec (motive := fun _ => γ) b a t) (fun _ _ _ _ no => no) (fun _ _ _ _ no => no) (fun _ _ _ _ _ no => no) (fun _ _ _ no => no) (fun _ _ _ no => no) (fun _ _ _ _ _ no => no) (fun _ _ _ no => no) (fun _ _ _ no => no) (fun _ _ _ _ _ _ _ no => no) (fun _ _ no => no) (fun _ _ _ _ _ no => no) (fun _ _ no => no) (fun _ _ _ _ no => no) (fun _ _ _ _ no => no) (fun _ _ => ()) () (fun _ _ _ _ => ()) v a b no
def onStr {γ : Type} (v : Value) (k : ByteArray → γ) (no : γ) : γ := Value.rec (motive_1 := fun _ => (ByteArray → γ) → γ → γ) (motive_2 := fun _ => Unit) (motive_3 := fun _ => Unit)
  (fun _ _ no => no) (fun _ _ _ no => no) (fun _ _ _ no => no) (fun _ _ _ _ no => no) (fun s k _ => k s) (fun _ _ no => no) (fun _ _ _ _ no => no) (fun _ _ no => no) (fun _ _ no => no) (fun _ _ _ _ _ _ no => no) (fun _ no => no) (fun _ _ _ _ no => no) (fun _ no => no) (fun _ _ _ no => no) (fun _ _ _ no => no) (fun _ _ => ()) () (fun _ _ _ _ => ()) v k no
def onPtr {γ : Type} (v : Value) (k : Option Addr → γ) (no : γ) : γ := Value.rec (motive_1 := fun _ => (Option Addr → γ) → γ → γ) (motive_2 := fun _ => Unit) (motive_3 := fun _ => Unit)
  (fun _ _ no => no) (fun _ _ _ no => no) (fun _ _ _ no => no) (fun _ _ _ _ no => no) (fun _ _ no => no) (fun a k _ => k a) (fun _ _ _ _ no => no) (fun _ _ no => no) (fun _ _ no => no) (fun _ _ _ _ _ _ no => no) (fun _ no => no) (fun _ _ _ _ no => no) (fun _ no => no) (fun _ _ _ no => no) (fun _ _ _ no => no) (fun _ _ => ()) () (fun _ _ _ _ => ()) v k no
def onAddr {γ : Type} (k : Nat → Nat → γ) (no : γ) (a : Option Addr) : γ := Option.rec (motive := fun _ => γ) no (fun ad => Addr.rec (motive := fun _ => γ) (fun id off sp => Option.rec (motive := fun _ => γ) (k id off) (fun _ => no) sp) ad) a

/-! ## Operations, a piece each -/
section
variable (E : Env) (call : Cal → List Value → M Value) (ρ : Operand → Value)
def fPick (c a b : Operand) : M Value := match ρ c with
  | .bool t => M.pure (bif t then ρ a else ρ b)
  | _ => M.fail
def fAlloc (t : TypeId) : M Value := (tinfo E t).bind fun i => (newBlk (.cells i.zero i.size true false [])).bind fun id => M.pure (.pointer (some ⟨id, 0, none⟩))
def fBox (x : Operand) : M Value := (M.of (flat? (ρ x))).bind fun c => (newBlk (.cells c 0 true false [])).bind fun id => M.pure (.pointer (some ⟨id, 0, none⟩))
def fBuild (t : TypeId) (parts : Array (Nat × Operand)) : M Value := (tinfo E t).bind fun i => match i.under with
    | .struct fs =>
      let ps := parts.toList.map fun (k, x) => (k, ρ x)
      let place := fun k => match fs[k]? with
        | none => none
        | some (f : Field) => match tiOf E.types f.type with
          | none => none
          | some j => some (f.offset, j.size)
      (M.of (fillA place ps i.zero)).bind fun c => M.pure (.agg ⟨c⟩)
    | .array _ e => (tinfo E e).bind fun j => (M.of (fillA (fun k => some (k * j.size, j.size)) (parts.toList.map fun (k, x) => (k, ρ x)) i.zero)).bind fun c => M.pure (.agg ⟨c⟩)
    | _ => M.fail
def fBuildSlice (t : TypeId) (len : Nat) (parts : Array (Nat × Operand)) : M Value := (tinfo E t).bind fun i => match i.under with
    | .slice e => (tinfo E e).bind fun j =>
      (M.of (fillA (fun k => some (k * j.size, j.size)) (parts.toList.map fun (k, x) => (k, ρ x)) (repeatA j.zero len))).bind fun c =>
      bif Nat.ble (len * j.size) 16777216 then (newBlk (.cells c j.size true false [])).bind fun id => M.pure (.slice (some ⟨id, 0, none⟩) len (capK len)) else M.fail
    | _ => M.fail
def fLoad (t : TypeId) (a : Operand) : M Value := (tinfo E t).bind fun i => loadA i (ρ a)
def fStore (t : TypeId) (a x : Operand) : M Value := (tinfo E t).bind fun i => storeA i (ρ a) (ρ x)
def fNil (x : Operand) : M Value := match ρ x with
    | .pointer (some a) => M.pure (.pointer (some a))
    | .func (.func f) a b => M.pure (.func (.func f) a b)
    | _ => M.fail
def fFunc (f : FuncId) (first captured : Array Operand) : M Value := bif (first.toList.map ρ).all capOk && (captured.toList.map ρ).all capOk then
      M.pure (.func (.func f) ⟨first.toList.map ρ⟩ ⟨captured.toList.map ρ⟩) else M.fail
def fFieldAddr (s : TypeId) (x : Operand) (k : Nat) : M Value := (tinfo E s).bind fun i => match i.under, ρ x with
    | .struct fs, .pointer (some ⟨id, off, none⟩) => match fs[k]? with
      | some f => (tinfo E f.type).bind fun j => bif Nat.beq j.size 0 then M.fail else M.pure (.pointer (some ⟨id, off + f.offset, none⟩))
      | none => M.fail
    | _, _ => M.fail
def fField (s : TypeId) (x : Operand) (k : Nat) : M Value := (tinfo E s).bind fun i => match i.under, ρ x with
    | .struct fs, .agg cs => match fs[k]? with
      | some f => (tinfo E f.type).bind fun j => M.of (partA j cs.toList f.offset)
      | none => M.fail
    | _, _ => M.fail
def fExtract (t : Operand) (k : Nat) : M Value := match ρ t with
    | .tuple vs => M.of vs[k]?
    | _ => M.fail
def fBin (o : Oper) (op : BinOp) (t : TypeId) (x y : Operand) : M Value := match fastBin op (ρ x) (ρ y) with
    | some v => M.pure v
    | none => match fastBin2 op (ρ x) (ρ y) with
      | some v => M.pure v
      | none => match eqT E op t (ρ x) (ρ y) with
        | some v => M.pure v
        | none => match eqStruct E op t (ρ x) (ρ y) with
          | some v => M.pure v
          | none => M.of (plainA E ρ o)
def fSlice (t : TypeId) (x : Operand) (lo hi mx : Option Operand) : M Value := match ρ x with
    | .string s => M.of (strSlice E t s (lo.map ρ) (hi.map ρ) (mx.map ρ))
    | x => sliceA E t x (lo.map ρ) (hi.map ρ) (mx.map ρ)
def fIndex (o : Oper) (t : TypeId) (x ix : Operand) : M Value := match ρ x with
    | .string s => M.of (strIndex E t s (ρ ix))
    | _ => M.of (plainA E ρ o)
def fMakeSlice (t : TypeId) (l c : Operand) : M Value := match natA (ρ l) with
    | some l => match natA (ρ c) with
      | some c => makeSliceA E t l c
      | none => M.fail
    | none => M.fail
def fConvert (src dst : TypeId) (x : Operand) : M Value := match convA E src dst (ρ x) with
    | some v => M.pure v
    | none => convM E src dst (ρ x)
def fRange (t : TypeId) (x : Operand) : M Value := match ρ x with
    | .string s => match under? E t with
      | some .string => (newBlk (.iter s 0)).bind fun id => M.pure (.pointer (some ⟨id, 0, none⟩))
      | _ => M.fail
    | _ => M.fail
def fCall (o : Oper) (c : Call) : M Value := match c.callee with
    | .value f => callA E call (ρ f) (c.args.toList.map ρ)
    | .builtin b => match b with
      | .min => M.of (plainA E ρ o)
      | .max => M.of (plainA E ρ o)
      | b => builtinA E b c.argTypes.toList (c.args.toList.map ρ)
    | _ => M.fail
end


def faop (E : Env) (call : Cal → List Value → M Value) (ρ : Operand → Value) (o : Oper) : M Value :=
  match o.op with
  | .move x | .assign x => M.pure (ρ x)
  | .pick c a b => fPick ρ c a b
  | .alloc t => fAlloc E t
  | .box t x => fBox ρ x
  | .build t parts => fBuild E ρ t parts
  | .buildSlice t len parts => fBuildSlice E ρ t len parts
  | .load t a => fLoad E ρ t a
  | .store t a x => fStore E ρ t a x
  | .nilCheck x => fNil ρ x
  | .makeFunc (.func f) first captured => fFunc ρ f first captured
  | .fieldAddr s x k => fFieldAddr E ρ s x k
  | .field s x k => fField E ρ s x k
  | .indexAddr t x ix => indexAddrA E t (ρ x) (ρ ix)
  | .extract t k => fExtract ρ t k
  | .binOp op t x y _ => fBin E ρ o op t x y
  | .slice t x lo hi mx => fSlice E ρ t x lo hi mx
  | .index t x ix => fIndex E ρ o t x ix
  | .makeSlice t l c => fMakeSlice E ρ t l c
  | .convert src dst x => fConvert E ρ src dst x
  | .range t x => fRange E ρ t x
  | .next it true => nextA (ρ it)
  | .call c => fCall E call ρ o c
  | .select _ _ => M.fail
  | .defer _ => M.fail
  | _ => M.of (plainA E ρ o)
theorem faop_eq (E : Env) (call : Cal → List Value → M Value) (ρ : Operand → Value) (o : Oper) : faop E call ρ o = aop E call ρ o := by
  unfold faop aop
  cases o.op <;> rfl

/-! ## By continuation -/
variable {Ω : Type}
def R.thn {α : Type} (r : R α) (k : α → St → R Ω) : R Ω := match r with
  | .ok a s => k a s
  | .err c => .err c
theorem bind_thn {α β : Type} (m : M α) (f : α → M β) (s : St) (k : β → St → R Ω) : ((m.bind f) s).thn k = (m s).thn fun a s' => (f a s').thn k := by
  unfold M.bind
  cases m s <;> rfl
theorem pure_thn {α : Type} (a : α) (s : St) (k : α → St → R Ω) : (M.pure a s).thn k = k a s := rfl
theorem fail_thn {α : Type} (s : St) (k : α → St → R Ω) : ((M.fail : M α) s).thn k = .err [] := rfl
theorem of_thn {α : Type} (o : Option α) (s : St) (k : α → St → R Ω) : (M.of o s).thn k = Option.rec (motive := fun _ => R Ω) (.err []) (fun a => k a s) o := by cases o <;> rfl
theorem cond_thn {α : Type} (b : Bool) (m n : M α) (s : St) (k : α → St → R Ω) : (cond b m n s).thn k = cond b ((m s).thn k) ((n s).thn k) := by cases b <;> rfl
theorem thn_congr {α : Type} (r : R α) {k l : α → St → R Ω} (h : ∀ a s, k a s = l a s) : r.thn k = r.thn l := by
  have : k = l := funext fun a => funext fun s => h a s
  rw [this]

/-- A value's head, handed on. -/
def vwK {β : Type} (v : Value) (k : Value → β) : β := Value.casesOn (motive_1 := fun _ => β) v (fun b => k (.bool b)) (fun q n => k (.int q n)) (fun q n => k (.float q n)) (fun q n m => k (.complex q n m)) (fun s => k (.string s)) (fun a => k (.pointer a))
  (fun a n c => k (.slice a n c)) (fun r => k (.map r)) (fun r => k (.chan r)) (fun f a b => k (.func f a b)) (k .nilFunc) (fun t v => k (.iface t v)) (k .nilIface) (fun c => k (.agg c)) (fun c => k (.tuple c))
theorem vwK_eq {β : Type} (v : Value) (k : Value → β) : vwK v k = k v := by cases v <;> rfl

def kget (id : Nat) (s : St) (k : Blk → St → R Ω) : R Ω := St.rec (motive := fun _ => R Ω) (fun heap next rl wl => heap.getK id (.err [id]) fun b => k b ⟨heap, next, id :: rl, wl⟩) s
theorem kget_eq (id : Nat) (s : St) (k : Blk → St → R Ω) : kget id s k = (getBlk id s).thn k := by
  cases s with
  | mk heap next rl wl =>
    unfold kget getBlk
    dsimp only
    rw [T.getK_eq]
    cases heap.get id <;> rfl
def kput (id : Nat) (b : Blk) (s : St) (k : St → R Ω) : R Ω := St.rec (motive := fun _ => R Ω) (fun heap next rl wl => fif (Nat.ble (Nat.succ id) (nat_lit 1152921504606846976)) (T.fset b (nat_lit 64) heap id fun h => k ⟨h, next, rl, id :: wl⟩) (.err [])) s
theorem kput_eq (id : Nat) (b : Blk) (s : St) (k : St → R Ω) : kput id b s k = (putBlk id b s).thn fun _ s => k s := by
  rw [putBlk_eq]
  cases s with
  | mk heap next rl wl =>
    unfold kput
    dsimp only
    rw [T.fset_eq]
    rw [fif_eq]
    show cond (Nat.blt id bound) _ _ = _
    cases Nat.blt id bound <;> rfl
def knew (b : Blk) (s : St) (k : Nat → St → R Ω) : R Ω := St.rec (motive := fun _ => R Ω) (fun heap next rl wl => fif (Nat.ble (Nat.succ next) (nat_lit 1152921504606846976)) (T.fset b (nat_lit 64) heap next fun h => fnK (Nat.succ next) fun n => k next ⟨h, n, rl, next :: wl⟩) (.err [])) s
theorem knew_eq (b : Blk) (s : St) (k : Nat → St → R Ω) : knew b s k = (newBlk b s).thn k := by
  rw [newBlk_eq]
  cases s with
  | mk heap next rl wl =>
    unfold knew
    dsimp only
    rw [T.fset_eq, fnK_eq]
    rw [fif_eq]
    show cond (Nat.blt next bound) _ _ = _
    cases Nat.blt next bound <;> rfl
def kcells (c : List Value) (es : Nat) (s : St) (k : Nat → St → R Ω) : R Ω := flK c fun c => knew (.cells c es true false []) s k
theorem kcells_eq (c : List Value) (es : Nat) (s : St) (k : Nat → St → R Ω) : kcells c es s k = (newBlk (.cells c es true false []) s).thn k := by
  unfold kcells
  rw [flK_eq, knew_eq]
def kkill (is : List Nat) : St → (St → R Ω) → R Ω := List.rec (motive := fun _ => St → (St → R Ω) → R Ω) (fun s k => k s) (fun i _ ih s k => kput i .dead s fun s => ih s k) is
theorem kkill_eq : ∀ (is : List Nat) (s : St) (k : St → R Ω), kkill is s k = (killAll is s).thn fun _ s => k s
  | [], s, k => rfl
  | i :: is, s, k => by
    show (kput i .dead s fun s => kkill is s k) = _
    unfold killAll
    rw [kput_eq, bind_thn]
    exact thn_congr _ fun _ s => kkill_eq is s k
def kread (id off n : Nat) (s : St) (k : List Value → St → R Ω) : R Ω := kget id s fun b s => Blk.rec (motive := fun _ => R Ω) (fun c _ _ _ _ => fwin (.err []) n (fun r => k r s) off c) (.err []) (fun _ _ => .err []) (fun _ _ _ => .err []) (.err []) b
theorem kread_eq (id off n : Nat) (s : St) (k : List Value → St → R Ω) : kread id off n s k = (readAt id off n s).thn k := by
  unfold kread readAt
  rw [kget_eq, bind_thn]
  refine thn_congr _ fun b s => ?_
  cases b with
  | cells c _ _ _ _ =>
    dsimp only
    rw [fwin_eq, of_thn]
    cases window c off n <;> rfl
  | _ => rfl
def kreadOne (id off : Nat) (s : St) (k : Value → St → R Ω) : R Ω := kget id s fun b s => Blk.rec (motive := fun _ => R Ω) (fun c _ _ _ _ => Option.rec (motive := fun _ => R Ω) (.err []) (fun v => k v s) (fnth c off)) (.err []) (fun _ _ => .err []) (fun _ _ _ => .err []) (.err []) b
theorem kreadOne_eq (id off : Nat) (s : St) (k : Value → St → R Ω) : kreadOne id off s k = (readOne id off s).thn k := by
  unfold kreadOne readOne
  rw [kget_eq, bind_thn]
  refine thn_congr _ fun b s => ?_
  cases b with
  | cells c _ _ _ _ =>
    dsimp only
    rw [fnth_eq, of_thn]
  | _ => rfl
def kwrite (id off : Nat) (vs : List Value) (s : St) (k : St → R Ω) : R Ω := kget id s fun b s => Blk.rec (motive := fun _ => R Ω)
  (fun c es own old par => fif own (fif old (.err []) (fif (Nat.ble (Nat.add off (flen vs)) (flen c)) (fsplice vs off c fun r => kput id (.cells r es true false []) s fun s => kkill par s k) (.err []))) (.err [])) (.err []) (fun _ _ => .err []) (fun _ _ _ => .err []) (.err []) b
theorem kwrite_eq (id off : Nat) (vs : List Value) (s : St) (k : St → R Ω) : kwrite id off vs s k = (writeAt id off vs s).thn fun _ s => k s := by
  unfold kwrite writeAt
  rw [kget_eq, bind_thn]
  refine thn_congr _ fun b s => ?_
  cases b with
  | cells c es own old par =>
    cases own with
    | false => rfl
    | true => cases old with
      | true => rfl
      | false =>
        dsimp only
        rw [flen_eq, flen_eq, fsplice_eq, kput_eq, cond_thn, bind_thn]
        rw [fif_eq]
        show cond (Nat.ble (off + vs.length) c.length) _ _ = _
        congr 1
        exact thn_congr _ fun _ s => kkill_eq par s k
  | _ => rfl
def klog {α : Type} (m : St → (α → St → R Ω) → R Ω) (s : St) (k : α → List Nat → List Nat → St → R Ω) : R Ω := St.rec (motive := fun _ => R Ω) (fun heap next rl wl =>
  m ⟨heap, next, [], []⟩ fun a s' => St.rec (motive := fun _ => R Ω) (fun heap' next' rl' wl' => k a rl' wl' ⟨heap', next', fapp rl' rl, fapp wl' wl⟩) s') s
theorem klog_eq {α : Type} {m : St → (α → St → R Ω) → R Ω} {x : M α} (h : ∀ s k, m s k = (x s).thn k) (s : St) (k : α → List Nat → List Nat → St → R Ω) : klog m s k = (M.logged x s).thn fun p s => k p.1 p.2.1 p.2.2 s := by
  cases s with
  | mk heap next rl wl =>
    unfold klog M.logged
    dsimp only
    rw [h]
    cases x ⟨heap, next, [], []⟩ with
    | err c => rfl
    | ok a s' =>
      cases s' with
      | mk heap' next' rl' wl' =>
        show k a rl' wl' ⟨heap', next', fapp rl' rl, fapp wl' wl⟩ = _
        rw [fapp_eq, fapp_eq]
        rfl

/-! ## Frames -/
def Fr.fget (f : Fr) (t : Nat) : Value := Fr.rec (motive := fun _ => Value) (fun tm _ _ => Option.rec (motive := fun _ => Value) undef (fun v => v) (tm.fget t)) f
theorem Fr.fget_eq (f : Fr) (t : Nat) : f.fget t = f.get t := by
  cases f with
  | mk tm n m =>
    unfold Fr.fget Fr.get
    dsimp only
    rw [T.fget_eq]
    cases tm.get t <;> rfl
def Fr.fput {β : Type} (f : Fr) (dst : Option Tmp) (v : Value) (k : Fr → β) : β :=
  Option.rec (motive := fun _ => β) (k f) (fun d => Fr.rec (motive := fun _ => β) (fun tm n marks => cond (Nat.ble (Nat.succ d) n) (T.fset v (nat_lit 64) tm d fun t => k ⟨t, n, marks⟩) (k ⟨tm, n, marks⟩)) f) dst
theorem Fr.fput_eq {β : Type} (f : Fr) (dst : Option Tmp) (v : Value) (k : Fr → β) : f.fput dst v k = k (f.put dst v) := by
  cases dst with
  | none => rfl
  | some d =>
    cases f with
    | mk tm n marks =>
      unfold Fr.fput Fr.put
      dsimp only
      rw [T.fset_eq]
      show cond (Nat.blt d n) _ _ = _
      cases Nat.blt d n <;> rfl
def Fr.feval (f : Fr) (x : Operand) : Value := Operand.rec (motive := fun _ => Value) (fun t => f.fget t) (fun v => v) (fun g => .pointer (some ⟨g, nat_lit 0, none⟩)) (fun g => .func (.func g) #[] #[]) x
theorem Fr.feval_eq (f : Fr) : f.feval = f.eval := by
  funext x
  cases x with
  | tmp t => exact Fr.fget_eq f t
  | _ => rfl
/-! ## Tables -/
structure FT where
  E : Env
  ti : T TI
  fn : T Func
structure FT.Fits (F : FT) : Prop where
  ti : ∀ t, F.ti.get t = tiOf F.E.types t
  fn : ∀ g, F.fn.get g = F.E.funcs.get g

def funder (F : FT) (t : TypeId) : Option TypeDesc := Option.rec (motive := fun _ => Option TypeDesc) (under? F.E t) (fun i => some i.under) (F.ti.fget t)
theorem tiOf_under {E : Env} {t : TypeId} {i : TI} (h : tiOf E.types t = some i) : under? E t = some i.under := by
  unfold tiOf at h
  unfold under?
  cases he : E.types.get t with
  | none => rw [he] at h; cases h
  | some j =>
    rw [he] at h
    dsimp only at h
    show underOf E.types j.desc = _
    cases hu : underOf E.types j.desc with
    | none => rw [hu] at h; cases h
    | some d =>
      rw [hu] at h
      cases hz : j.zero with
      | none => rw [hz] at h; cases h
      | some z => rw [hz] at h; cases h; rfl
theorem funder_eq {F : FT} (h : F.Fits) (t : TypeId) : funder F t = under? F.E t := by
  unfold funder
  rw [T.fget_eq]
  cases he : F.ti.get t with
  | none => rfl
  | some i =>
    rw [h.ti] at he
    exact (tiOf_under he).symm

def glenA (F : FT) (ats : List TypeId) (x : Value) : Option Value := match ats with
  | t :: _ => match funder F t with
    | some .string => match x with
      | .string s => some (.int .i64 (.ofNat (flen s.data.toList)))
      | _ => none
    | some (.slice _) => match x with
      | .slice _ n _ => some (.int .i64 (.ofNat n))
      | _ => none
    | some (.array n _) => some (.int .i64 (.ofNat n))
    | _ => none
  | [] => none
theorem glenA_eq {F : FT} (hF : F.Fits) (ats : List TypeId) (x : Value) : glenA F ats x = lenA F.E ats x := by
  unfold glenA lenA
  simp only [funder_eq hF, flen_eq]
  rfl
/-! ## Numbers -/
def kEq (k l : IntKind) : Bool := IntKind.rec (motive := fun _ => Bool)
  (IntKind.rec (motive := fun _ => Bool) true false false false false false false false l) (IntKind.rec (motive := fun _ => Bool) false true false false false false false false l)
  (IntKind.rec (motive := fun _ => Bool) false false true false false false false false l) (IntKind.rec (motive := fun _ => Bool) false false false true false false false false l)
  (IntKind.rec (motive := fun _ => Bool) false false false false true false false false l) (IntKind.rec (motive := fun _ => Bool) false false false false false true false false l)
  (IntKind.rec (motive := fun _ => Bool) false false false false false false true false l) (IntKind.rec (motive := fun _ => Bool) false false false false false false false true l) k
theorem kEq_eq (k l : IntKind) : kEq k l = (k == l) := by cases k <;> cases l <;> rfl
theorem not_blt (a b : Nat) : (!Nat.blt b a) = Nat.ble a b := by
  rw [Bool.eq_iff_iff]
  simp only [Bool.not_eq_true', Bool.eq_false_iff, ne_eq, Nat.blt_eq, Nat.ble_eq]
  omega
def fbytesEq (a : List UInt8) : List UInt8 → Bool := List.rec (motive := fun _ => List UInt8 → Bool) (fun b => List.rec (motive := fun _ => Bool) true (fun _ _ _ => false) b)
  (fun x _ ih b => List.rec (motive := fun _ => Bool) false (fun y t _ => cond (Nat.beq x.toNat y.toNat) (ih t) false) b) a
theorem fbytesEq_eq : ∀ (a b : List UInt8), fbytesEq a b = bytesEq a b
  | [], [] => rfl
  | [], _ :: _ => rfl
  | _ :: _, [] => rfl
  | x :: a, y :: b => by
    show cond (Nat.beq x.toNat y.toNat) (fbytesEq a b) false = _
    rw [fbytesEq_eq a b]; rfl
def ftoStr {β : Type} (bad : β) (l : List Value) : (List UInt8 → β) → β := List.rec (motive := fun _ => (List UInt8 → β) → β) (fun k => k []) (fun v _ ih k => match v with
  | .int .u8 n => ih fun r => k (UInt8.ofNat n.toNat :: r)
  | _ => bad) l
theorem ftoStr_eq {β : Type} (bad : β) : ∀ (l : List Value) (acc : List UInt8) (k : ByteArray → β), (ftoStr bad l fun r => k ⟨⟨acc.reverse ++ r⟩⟩) = (match toStr l acc with
    | some s => k s
    | none => bad)
  | [], acc, k => by
    unfold toStr
    show k ⟨⟨acc.reverse ++ []⟩⟩ = _
    rw [List.append_nil]
  | v :: l, acc, k => by
    have step : ∀ n, (ftoStr bad l fun r => k ⟨⟨acc.reverse ++ (UInt8.ofNat n :: r)⟩⟩) = match toStr l (UInt8.ofNat n :: acc) with
        | some s => k s
        | none => bad := fun n => by
      rw [← ftoStr_eq bad l (UInt8.ofNat n :: acc) k]
      simp only [List.reverse_cons, List.append_assoc, List.singleton_append]
    cases v with
    | int q n => cases q with
      | u8 => exact step n.toNat
      | _ => rfl
    | _ => rfl
def froom (size off len clen : Nat) : Nat := cond (Nat.beq size (nat_lit 0)) len (cond (Nat.beq len (nat_lit 0)) len (cond (Nat.ble len (Nat.div (Nat.sub clen off) size)) (Nat.div (Nat.sub clen off) size) len))
theorem froom_eq (size off len clen : Nat) : froom size off len clen = room size off len clen := by
  unfold froom room
  show cond (Nat.beq size 0) len (cond (Nat.beq len 0) len (cond (Nat.ble len ((clen - off) / size)) ((clen - off) / size) len)) = _
  cases Nat.beq size 0 <;> cases Nat.beq len 0 <;> try rfl
  simp only [cond_false, Bool.or_false]
  by_cases h : len ≤ (clen - off) / size
  · rw [Nat.ble_eq_true_of_le h]
    exact (Nat.max_eq_right h).symm
  · rw [show len.max ((clen - off) / size) = len from Nat.max_eq_left (Nat.le_of_lt (Nat.lt_of_not_le h))]
    have : Nat.ble len ((clen - off) / size) = false := by rw [Bool.eq_false_iff]; intro hh; exact h (Nat.le_of_ble_eq_true hh)
    rw [this]; rfl
def Fr.evalK {β : Type} (f : Fr) (x : Operand) (k : Value → β) : β := Operand.rec (motive := fun _ => β) (fun t => f.tm.getK t (k undef) k) (fun v => k v) (fun g => k (.pointer (some ⟨g, nat_lit 0, none⟩))) (fun g => k (.func (.func g) #[] #[])) x
theorem Fr.evalK_eq {β : Type} (f : Fr) (x : Operand) (k : Value → β) : f.evalK x k = k (f.eval x) := by
  cases x with
  | tmp t =>
    show f.tm.getK t (k undef) k = k (f.get t)
    rw [T.getK_eq]
    unfold Fr.get
    cases f.tm.get t <;> rfl
  | _ => rfl
def Fr.evalO {β : Type} (f : Fr) (x : Option Operand) (k : Option Value → β) : β := Option.rec (motive := fun _ => β) (k none) (fun x => f.evalK x fun v => k (some v)) x
theorem Fr.evalO_eq {β : Type} (f : Fr) (x : Option Operand) (k : Option Value → β) : f.evalO x k = k (x.map f.eval) := by
  cases x with
  | none => rfl
  | some x => exact f.evalK_eq x fun v => k (some v)
def Fr.evalL {β : Type} (f : Fr) (xs : List Operand) : (List Value → β) → β := List.rec (motive := fun _ => (List Value → β) → β) (fun k => k []) (fun x _ ih k => f.evalK x fun v => ih fun vs => k (v :: vs)) xs
theorem Fr.evalL_eq {β : Type} (f : Fr) : ∀ (xs : List Operand) (k : List Value → β), f.evalL xs k = k (xs.map f.eval)
  | [], k => rfl
  | x :: xs, k => by
    show (f.evalK x fun v => f.evalL xs fun vs => k (v :: vs)) = _
    rw [f.evalK_eq, Fr.evalL_eq f xs]
    rfl
def Fr.evalP {β : Type} (f : Fr) (ps : List (Nat × Operand)) : (List (Nat × Value) → β) → β := List.rec (motive := fun _ => (List (Nat × Value) → β) → β) (fun k => k []) (fun p _ ih k => f.evalK p.2 fun v => ih fun vs => k ((p.1, v) :: vs)) ps
theorem Fr.evalP_eq {β : Type} (f : Fr) : ∀ (ps : List (Nat × Operand)) (k : List (Nat × Value) → β), f.evalP ps k = k (ps.map fun (i, x) => (i, f.eval x))
  | [], k => rfl
  | (i, x) :: ps, k => by
    show (f.evalK x fun v => f.evalP ps fun vs => k ((i, v) :: vs)) = _
    rw [f.evalK_eq, Fr.evalP_eq f ps]
    rfl

/-! ## Operations, by continuation -/
def kinfo (F : FT) (t : TypeId) (k : TypeDesc → Nat → Nat → List Value → Bool → R Ω) : R Ω := F.ti.getK t (.err []) fun i => TI.rec (motive := fun _ => R Ω) k i
theorem kinfo_eq {F : FT} (h : F.Fits) (t : TypeId) (s : St) (k : TypeDesc → Nat → Nat → List Value → Bool → St → R Ω) : (kinfo F t fun a b c d e => k a b c d e s) = (tinfo F.E t s).thn fun i s => k i.under i.size i.bytes i.zero i.isAgg s := by
  unfold kinfo tinfo
  rw [T.getK_eq, h.ti, of_thn]
def kptr (v : Value) (k : Nat → Nat → R Ω) : R Ω := onPtr v (onAddr k (.err [])) (.err [])
def kflat (v : Value) (k : List Value → R Ω) : R Ω := Option.rec (motive := fun _ => R Ω) (.err []) k (flat? v)
def kload (F : FT) (t : TypeId) (v : Value) (s : St) (k : Value → St → R Ω) : R Ω := kinfo F t fun _ size _ _ agg => kptr v fun id off => fif agg (kread id off size s fun c s => k (.agg ⟨c⟩) s) (kreadOne id off s k)
theorem kload_eq {F : FT} (h : F.Fits) (t : TypeId) (v : Value) (s : St) (k : Value → St → R Ω) : kload F t v s k = ((tinfo F.E t).bind (fun i => loadA i v) s).thn k := by
  unfold kload
  rw [fif_eq]
  rw [kinfo_eq h t s (fun _ size _ _ agg s => kptr v fun id off => cond agg (kread id off size s fun c s => k (.agg ⟨c⟩) s) (kreadOne id off s k)), bind_thn]
  refine thn_congr _ fun i s => ?_
  unfold loadA
  cases v with
  | pointer a => cases a with
    | none => rfl
    | some ad =>
      obtain ⟨id, off, sp⟩ := ad
      cases sp with
      | some _ => rfl
      | none =>
        show cond i.isAgg (kread id off i.size s fun c s => k (.agg ⟨c⟩) s) (kreadOne id off s k) = _
        rw [kread_eq, kreadOne_eq]
        dsimp only
        rw [cond_thn, bind_thn]
        rfl
  | _ => rfl
def kstore (F : FT) (t : TypeId) (v x : Value) (s : St) (k : Value → St → R Ω) : R Ω := kinfo F t fun _ size _ _ _ => kptr v fun id off => kflat x fun c => fif (Nat.beq (flen c) size) (kwrite id off c s fun s => k undef s) (.err [])
theorem kstore_eq {F : FT} (h : F.Fits) (t : TypeId) (v x : Value) (s : St) (k : Value → St → R Ω) : kstore F t v x s k = ((tinfo F.E t).bind (fun i => storeA i v x) s).thn k := by
  unfold kstore
  rw [fif_eq]
  rw [kinfo_eq h t s (fun _ size _ _ _ s => kptr v fun id off => kflat x fun c => cond (Nat.beq (flen c) size) (kwrite id off c s fun s => k undef s) (.err [])), bind_thn]
  refine thn_congr _ fun i s => ?_
  unfold storeA kflat
  cases v with
  | pointer a => cases a with
    | none => rfl
    | some ad =>
      obtain ⟨id, off, sp⟩ := ad
      cases sp with
      | some _ => rfl
      | none =>
        show Option.rec (motive := fun _ => R Ω) (.err []) (fun c => cond (Nat.beq (flen c) i.size) (kwrite id off c s fun s => k undef s) (.err [])) (flat? x) = _
        dsimp only
        cases flat? x with
        | none => rfl
        | some c =>
          dsimp only
          rw [flen_eq, kwrite_eq, cond_thn, bind_thn]
          rfl
  | _ => rfl
def kfill (place : Nat → Option (Nat × Nat)) (ps : List (Nat × Value)) : List Value → (List Value → R Ω) → R Ω :=
  List.rec (motive := fun _ => List Value → (List Value → R Ω) → R Ω) (fun c k => k c) (fun p _ ih c k => Option.rec (motive := fun _ => R Ω) (.err []) (fun q => kflat p.2 fun vs => fif (Nat.beq (flen vs) q.2) (fif (Nat.ble (Nat.add q.1 q.2) (flen c)) (fsplice vs q.1 c fun c' => ih c' k) (.err [])) (.err [])) (place p.1)) ps
theorem kfill_eq (place : Nat → Option (Nat × Nat)) : ∀ (ps : List (Nat × Value)) (c : List Value) (s : St) (k : List Value → St → R Ω), (kfill place ps c fun c => k c s) = (M.of (fillA place ps c) s).thn k
  | [], c, s, k => rfl
  | (i, v) :: ps, c, s, k => by
    show Option.rec (motive := fun _ => R Ω) (.err []) (fun q => kflat v fun vs => fif (Nat.beq (flen vs) q.2) (fif (Nat.ble (Nat.add q.1 q.2) (flen c)) (fsplice vs q.1 c fun c' => kfill place ps c' fun c => k c s) (.err [])) (.err [])) (place i) = _
    rw [fif_eq]
    unfold fillA
    cases place i with
    | none => rfl
    | some q =>
      obtain ⟨off, size⟩ := q
      unfold kflat
      cases flat? v with
      | none => rfl
      | some vs =>
        dsimp only
        rw [flen_eq, flen_eq, fsplice_eq, kfill_eq place ps]
        show cond _ (cond (Nat.ble (off + size) c.length) _ _) _ = _
        cases Nat.beq vs.length size
        · rfl
        · cases Nat.ble (off + size) c.length <;> rfl
section
variable (F : FT) (call : Cal → List Value → St → (Value → St → R Ω) → R Ω) (ρ : Operand → Value)
def gplace (fs : Array Field) (k : Nat) : Option (Nat × Nat) := Option.rec (motive := fun _ => Option (Nat × Nat)) none (fun f => Option.rec (motive := fun _ => Option (Nat × Nat)) none (fun j => some (f.offset, j.size)) (F.ti.fget f.type)) (fnth fs.toList k)
theorem gplace_eq {F : FT} (h : F.Fits) (fs : Array Field) : gplace F fs = fun k => match fs[k]? with
        | none => none
        | some (f : Field) => match tiOf F.E.types f.type with
          | none => none
          | some j => some (f.offset, j.size) := by
  funext k
  unfold gplace
  rw [fnth_eq, Array.getElem?_toList]
  cases fs[k]? with
  | none => rfl
  | some f =>
    dsimp only
    rw [T.fget_eq, h.ti]
    cases tiOf F.E.types f.type <;> rfl
def kPickV (f : Fr) (a b : Operand) (s : St) (k : Value → St → R Ω) (c : Value) : R Ω := onBool c (f.evalK a fun v => k v s) (f.evalK b fun v => k v s) (.err [])
def kPick (f : Fr) (c a b : Operand) (s : St) (k : Value → St → R Ω) : R Ω := f.evalK c (kPickV f a b s k)
theorem kPick_eq (f : Fr) (c a b : Operand) (s : St) (k : Value → St → R Ω) : kPick f c a b s k = (fPick f.eval c a b s).thn k := by
  unfold kPick fPick
  rw [f.evalK_eq]
  unfold kPickV
  cases f.eval c with
  | bool t =>
    dsimp only
    rw [f.evalK_eq, f.evalK_eq]
    cases t <;> rfl
  | _ => rfl
def kAlloc (t : TypeId) (s : St) (k : Value → St → R Ω) : R Ω := kinfo F t fun _ size _ zero _ => knew (.cells zero size true false []) s fun id s => k (.pointer (some ⟨id, nat_lit 0, none⟩)) s
theorem kAlloc_eq {F : FT} (h : F.Fits) (t : TypeId) (s : St) (k : Value → St → R Ω) : kAlloc F t s k = (fAlloc F.E t s).thn k := by
  unfold kAlloc fAlloc
  rw [kinfo_eq h t s (fun _ size _ zero _ s => knew (.cells zero size true false []) s fun id s => k (.pointer (some ⟨id, nat_lit 0, none⟩)) s), bind_thn]
  refine thn_congr _ fun i s => ?_
  rw [knew_eq, bind_thn]
  rfl
def kBox (v : Value) (s : St) (k : Value → St → R Ω) : R Ω := kflat v fun c => kcells c (nat_lit 0) s fun id s => k (.pointer (some ⟨id, nat_lit 0, none⟩)) s
theorem kBox_eq (x : Operand) (s : St) (k : Value → St → R Ω) : kBox (ρ x) s k = (fBox ρ x s).thn k := by
  unfold kBox fBox kflat
  rw [bind_thn, of_thn]
  cases flat? (ρ x) with
  | none => rfl
  | some c =>
    dsimp only
    rw [kcells_eq, bind_thn]
    rfl
def kBuild (t : TypeId) (ps : List (Nat × Value)) (s : St) (k : Value → St → R Ω) : R Ω := kinfo F t fun under _ _ zero _ => match under with
    | .struct fs => kfill (gplace F fs) ps zero fun c => k (.agg ⟨c⟩) s
    | .array _ e => kinfo F e fun _ size _ _ _ => kfill (fun k => some (Nat.mul k size, size)) ps zero fun c => k (.agg ⟨c⟩) s
    | _ => .err []
theorem kBuild_eq {F : FT} (h : F.Fits) (t : TypeId) (parts : Array (Nat × Operand)) (s : St) (k : Value → St → R Ω) : kBuild F t (parts.toList.map fun (k, x) => (k, ρ x)) s k = (fBuild F.E ρ t parts s).thn k := by
  unfold kBuild fBuild
  generalize hps : (parts.toList.map fun (k, x) => (k, ρ x)) = ps
  rw [kinfo_eq h t s (fun under _ _ zero _ s => match under with
    | .struct fs => kfill (gplace F fs) ps zero fun c => k (.agg ⟨c⟩) s
    | .array _ e => kinfo F e fun _ size _ _ _ => kfill (fun k => some (Nat.mul k size, size)) ps zero fun c => k (.agg ⟨c⟩) s
    | _ => .err []), bind_thn]
  refine thn_congr _ fun i s => ?_
  cases hu : i.under with
  | struct fs =>
    dsimp only
    rw [kfill_eq _ _ _ s fun c s => k (.agg ⟨c⟩) s, gplace_eq h, bind_thn]
    rfl
  | array n e =>
    dsimp only
    rw [kinfo_eq h e s fun _ size _ _ _ s => kfill (fun k => some (Nat.mul k size, size)) ps i.zero fun c => k (.agg ⟨c⟩) s, bind_thn]
    refine thn_congr _ fun j s => ?_
    rw [kfill_eq _ _ _ s fun c s => k (.agg ⟨c⟩) s, bind_thn]
    rfl
  | _ => rfl
def kBuildSlice (t : TypeId) (len : Nat) (ps : List (Nat × Value)) (s : St) (k : Value → St → R Ω) : R Ω := kinfo F t fun under _ _ _ _ => match under with
    | .slice e => kinfo F e fun _ size _ zero _ => kfill (fun k => some (Nat.mul k size, size)) ps (frep zero len) fun c =>
      fif (Nat.ble (Nat.mul len size) (nat_lit 16777216)) (kcells c size s fun id s => k (.slice (some ⟨id, nat_lit 0, none⟩) len (Nat.succ len)) s) (.err [])
    | _ => .err []
theorem kBuildSlice_eq {F : FT} (h : F.Fits) (t : TypeId) (len : Nat) (parts : Array (Nat × Operand)) (s : St) (k : Value → St → R Ω) : kBuildSlice F t len (parts.toList.map fun (k, x) => (k, ρ x)) s k = (fBuildSlice F.E ρ t len parts s).thn k := by
  unfold kBuildSlice fBuildSlice
  generalize hps : (parts.toList.map fun (k, x) => (k, ρ x)) = ps
  rw [fif_eq]
  rw [kinfo_eq h t s (fun under _ _ _ _ s => match under with
    | .slice e => kinfo F e fun _ size _ zero _ => kfill (fun k => some (Nat.mul k size, size)) ps (frep zero len) fun c =>
      cond (Nat.ble (Nat.mul len size) (nat_lit 16777216)) (kcells c size s fun id s => k (.slice (some ⟨id, nat_lit 0, none⟩) len (Nat.succ len)) s) (.err [])
    | _ => .err []), bind_thn]
  refine thn_congr _ fun i s => ?_
  cases hu : i.under with
  | slice e =>
    dsimp only
    rw [kinfo_eq h e s fun _ size _ zero _ s => kfill (fun k => some (Nat.mul k size, size)) ps (frep zero len) fun c =>
      cond (Nat.ble (Nat.mul len size) (nat_lit 16777216)) (kcells c size s fun id s => k (.slice (some ⟨id, nat_lit 0, none⟩) len (Nat.succ len)) s) (.err []), bind_thn]
    refine thn_congr _ fun j s => ?_
    rw [kfill_eq _ _ _ s fun c s => cond (Nat.ble (Nat.mul len j.size) (nat_lit 16777216)) (kcells c j.size s fun id s => k (.slice (some ⟨id, nat_lit 0, none⟩) len (Nat.succ len)) s) (.err []), frep_eq, bind_thn]
    refine thn_congr _ fun c s => ?_
    rw [kcells_eq, cond_thn, bind_thn]
    rfl
  | _ => rfl
def kNil (v : Value) (s : St) (k : Value → St → R Ω) : R Ω := match v with
    | .pointer (some a) => k (.pointer (some a)) s
    | .func (.func f) a b => k (.func (.func f) a b) s
    | _ => .err []
theorem kNil_eq (x : Operand) (s : St) (k : Value → St → R Ω) : kNil (ρ x) s k = (fNil ρ x s).thn k := by
  unfold kNil fNil
  cases ρ x with
  | pointer a => cases a <;> rfl
  | func f a b => cases f <;> rfl
  | _ => rfl
def kFieldAddr (t : TypeId) (v : Value) (n : Nat) (s : St) (k : Value → St → R Ω) : R Ω := kinfo F t fun under _ _ _ _ => match under with
    | .struct fs => kptr v fun id off => Option.rec (motive := fun _ => R Ω) (.err []) (fun f => kinfo F f.type fun _ size _ _ _ => fif (Nat.beq size (nat_lit 0)) (.err []) (fnK (Nat.add off f.offset) fun o => k (.pointer (some ⟨id, o, none⟩)) s)) (fnth fs.toList n)
    | _ => .err []
theorem kFieldAddr_eq {F : FT} (h : F.Fits) (t : TypeId) (x : Operand) (n : Nat) (s : St) (k : Value → St → R Ω) : kFieldAddr F t (ρ x) n s k = (fFieldAddr F.E ρ t x n s).thn k := by
  unfold kFieldAddr fFieldAddr
  rw [fif_eq]
  rw [kinfo_eq h t s (fun under _ _ _ _ s => match under with
    | .struct fs => kptr (ρ x) fun id off => Option.rec (motive := fun _ => R Ω) (.err []) (fun f => kinfo F f.type fun _ size _ _ _ => cond (Nat.beq size (nat_lit 0)) (.err []) (fnK (Nat.add off f.offset) fun o => k (.pointer (some ⟨id, o, none⟩)) s)) (fnth fs.toList n)
    | _ => .err []), bind_thn]
  refine thn_congr _ fun i s => ?_
  generalize i.under = u
  generalize ρ x = v
  cases u with
  | struct fs =>
    dsimp only
    rw [fnth_eq, Array.getElem?_toList]
    cases v with
    | pointer a => cases a with
      | none => rfl
      | some ad =>
        obtain ⟨id, off, sp⟩ := ad
        cases sp with
        | some _ => rfl
        | none =>
          show Option.rec (motive := fun _ => R Ω) _ _ (fs[n]?) = _
          dsimp only
          cases fs[n]? with
          | none => rfl
          | some f =>
            dsimp only
            rw [kinfo_eq h f.type s fun _ size _ _ _ s => cond (Nat.beq size (nat_lit 0)) (.err []) (fnK (Nat.add off f.offset) fun o => k (.pointer (some ⟨id, o, none⟩)) s), bind_thn]
            refine thn_congr _ fun j s => ?_
            rw [cond_thn, fnK_eq]
            rfl
    | _ => rfl
  | _ => rfl
def kField (t : TypeId) (v : Value) (n : Nat) (s : St) (k : Value → St → R Ω) : R Ω := kinfo F t fun under _ _ _ _ => match under, v with
    | .struct fs, .agg cs => Option.rec (motive := fun _ => R Ω) (.err []) (fun f => kinfo F f.type fun _ size _ _ agg => fif agg (fwin (.err []) size (fun c => k (.agg ⟨c⟩) s) f.offset cs.toList) (Option.rec (motive := fun _ => R Ω) (.err []) (fun v => k v s) (fnth cs.toList f.offset))) (fnth fs.toList n)
    | _, _ => .err []
theorem kField_eq {F : FT} (h : F.Fits) (t : TypeId) (x : Operand) (n : Nat) (s : St) (k : Value → St → R Ω) : kField F t (ρ x) n s k = (fField F.E ρ t x n s).thn k := by
  unfold kField fField
  rw [fif_eq]
  rw [kinfo_eq h t s (fun under _ _ _ _ s => match under, ρ x with
    | .struct fs, .agg cs => Option.rec (motive := fun _ => R Ω) (.err []) (fun f => kinfo F f.type fun _ size _ _ agg => cond agg (fwin (.err []) size (fun c => k (.agg ⟨c⟩) s) f.offset cs.toList) (Option.rec (motive := fun _ => R Ω) (.err []) (fun v => k v s) (fnth cs.toList f.offset))) (fnth fs.toList n)
    | _, _ => .err []), bind_thn]
  refine thn_congr _ fun i s => ?_
  generalize i.under = u
  generalize ρ x = v
  cases u with
  | struct fs =>
    cases v with
    | agg cs =>
      dsimp only
      rw [fnth_eq, Array.getElem?_toList]
      cases fs[n]? with
      | none => rfl
      | some f =>
        dsimp only
        rw [kinfo_eq h f.type s fun _ size _ _ agg s => cond agg (fwin (.err []) size (fun c => k (.agg ⟨c⟩) s) f.offset cs.toList) (Option.rec (motive := fun _ => R Ω) (.err []) (fun v => k v s) (fnth cs.toList f.offset)), bind_thn]
        refine thn_congr _ fun j s => ?_
        rw [fwin_eq, fnth_eq, of_thn]
        unfold partA
        cases j.isAgg
        · rfl
        · simp only [cond_true]
          cases window cs.toList f.offset j.size <;> rfl
    | _ => rfl
  | _ => rfl
def kExtract (v : Value) (n : Nat) (s : St) (k : Value → St → R Ω) : R Ω := match v with
    | .tuple vs => Option.rec (motive := fun _ => R Ω) (.err []) (fun v => k v s) (fnth vs.toList n)
    | _ => .err []
theorem kExtract_eq (t : Operand) (n : Nat) (s : St) (k : Value → St → R Ω) : kExtract (ρ t) n s k = (fExtract ρ t n s).thn k := by
  unfold kExtract fExtract
  cases ρ t with
  | tuple vs =>
    dsimp only
    rw [fnth_eq, Array.getElem?_toList, of_thn]
  | _ => rfl
def kIdx (t : TypeId) (x : Value) (n : Nat) (s : St) (k : Value → St → R Ω) : R Ω := kinfo F t fun under _ _ _ _ => match under, x with
    | .array m e, .pointer (some ⟨id, off, none⟩) => kinfo F e fun _ size _ _ _ =>
      fif (Nat.ble (Nat.succ n) m) (fnK (Nat.add off (Nat.mul n size)) fun o => k (.pointer (some ⟨id, o, none⟩)) s) (.err [])
    | .slice e, .slice (some ⟨id, off, none⟩) len _ => kinfo F e fun _ size _ _ _ =>
      fif (Nat.ble (Nat.succ n) len) (fnK (Nat.add off (Nat.mul n size)) fun o => k (.pointer (some ⟨id, o, none⟩)) s) (.err [])
    | _, _ => .err []
def kIndexAddr (t : TypeId) (x ix : Value) (s : St) (k : Value → St → R Ω) : R Ω := Option.rec (motive := fun _ => R Ω) (.err []) (fun n => kIdx F t x n s k) (natA ix)
theorem kIndexAddr_eq {F : FT} (h : F.Fits) (t : TypeId) (x ix : Value) (s : St) (k : Value → St → R Ω) : kIndexAddr F t x ix s k = (indexAddrA F.E t x ix s).thn k := by
  unfold kIndexAddr indexAddrA
  cases natA ix with
  | none => rfl
  | some n =>
    dsimp only
    unfold kIdx
    rw [fif_eq]
    rw [kinfo_eq h t s (fun under _ _ _ _ s => match under, x with
    | .array m e, .pointer (some ⟨id, off, none⟩) => kinfo F e fun _ size _ _ _ =>
      cond (Nat.ble (Nat.succ n) m) (fnK (Nat.add off (Nat.mul n size)) fun o => k (.pointer (some ⟨id, o, none⟩)) s) (.err [])
    | .slice e, .slice (some ⟨id, off, none⟩) len _ => kinfo F e fun _ size _ _ _ =>
      cond (Nat.ble (Nat.succ n) len) (fnK (Nat.add off (Nat.mul n size)) fun o => k (.pointer (some ⟨id, o, none⟩)) s) (.err [])
    | _, _ => .err []), bind_thn]
    refine thn_congr _ fun i s => ?_
    generalize i.under = u
    cases u with
    | array m e => cases x with
      | pointer a => cases a with
        | none => rfl
        | some ad =>
          obtain ⟨id, off, sp⟩ := ad
          cases sp with
          | some _ => rfl
          | none =>
            dsimp only
            rw [kinfo_eq h e s fun _ size _ _ _ s => cond (Nat.ble (Nat.succ n) m) (fnK (Nat.add off (Nat.mul n size)) fun o => k (.pointer (some ⟨id, o, none⟩)) s) (.err []), bind_thn]
            refine thn_congr _ fun j s => ?_
            rw [fnK_eq, cond_thn]
            rfl
      | _ => rfl
    | slice e => cases x with
      | slice a len cap => cases a with
        | none => rfl
        | some ad =>
          obtain ⟨id, off, sp⟩ := ad
          cases sp with
          | some _ => rfl
          | none =>
            dsimp only
            rw [kinfo_eq h e s fun _ size _ _ _ s => cond (Nat.ble (Nat.succ n) len) (fnK (Nat.add off (Nat.mul n size)) fun o => k (.pointer (some ⟨id, o, none⟩)) s) (.err []), bind_thn]
            refine thn_congr _ fun j s => ?_
            rw [fnK_eq, cond_thn]
            rfl
      | _ => rfl
    | _ => rfl
end

/-! ### Numbers and strings -/
def kwrap (q : IntKind) (m : Nat) (k : Value → R Ω) : R Ω := fivK q (wrapA q (.ofNat m)) k
theorem kwrap_eq (q : IntKind) (m : Nat) (k : Value → R Ω) : kwrap q m k = k (.int q (wrapA q (.ofNat m))) := fivK_eq _ _ _
def knatBin (op : BinOp) (q : IntKind) (a b : Nat) (k : Value → R Ω) (no : R Ω) : R Ω := match op with
  | .add => fnK (Nat.add a b) fun m => kwrap q m k
  | .sub => fif (Nat.ble b a) (fnK (Nat.sub a b) fun m => kwrap q m k) (fivK q (wrapA q (.ofNat a - .ofNat b)) k)
  | .mul => fnK (Nat.mul a b) fun m => kwrap q m k
  | .eql => fbvK (Nat.beq a b) k
  | .neq => fbvK (fif (Nat.beq a b) false true) k
  | .lss => fbvK (Nat.ble (Nat.succ a) b) k
  | .leq => fbvK (Nat.ble a b) k
  | .gtr => fbvK (Nat.ble (Nat.succ b) a) k
  | .geq => fbvK (Nat.ble b a) k
  | _ => no
def optK (o : Option Value) (k : Value → R Ω) (no : R Ω) : R Ω := Option.rec (motive := fun _ => R Ω) no k o
theorem knatBin_eq (op : BinOp) (q : IntKind) (a b : Nat) (k : Value → R Ω) (no : R Ω) : knatBin op q a b k no = optK (intBinA op q (.ofNat a) (.ofNat b)) k no := by
  unfold knatBin
  cases op with
  | add => exact (fnK_eq _ _).trans (kwrap_eq _ _ _)
  | sub =>
    rw [fif_eq]
    show cond (Nat.ble b a) (fnK (Nat.sub a b) fun m => kwrap q m k) (fivK q (wrapA q (.ofNat a - .ofNat b)) k) = k (.int q (wrapA q (.ofNat a - .ofNat b)))
    rw [fnK_eq, kwrap_eq, fivK_eq]
    cases hb : Nat.ble b a with
    | false => rfl
    | true =>
      have hb := Nat.le_of_ble_eq_true hb
      rw [cond_true, show Int.ofNat (Nat.sub a b) = Int.ofNat a - Int.ofNat b from Int.ofNat_sub hb]
  | mul => exact (fnK_eq _ _).trans (kwrap_eq _ _ _)
  | eql => exact fbvK_eq _ _
  | neq =>
    refine (fbvK_eq _ _).trans ?_
    rw [fif_eq]
    show k (.bool (cond (Nat.beq a b) false true)) = k (.bool (!Nat.beq a b))
    cases Nat.beq a b <;> rfl
  | lss => exact fbvK_eq _ _
  | leq =>
    refine (fbvK_eq _ _).trans ?_
    show k (.bool (Nat.ble a b)) = k (.bool (!Nat.blt b a))
    rw [not_blt]
  | gtr => exact fbvK_eq _ _
  | geq =>
    refine (fbvK_eq _ _).trans ?_
    show k (.bool (Nat.ble b a)) = k (.bool (!Nat.blt a b))
    rw [not_blt]
  | _ => rfl
def kintBin (op : BinOp) (q : IntKind) (a b : Int) (k : Value → R Ω) (no : R Ω) : R Ω :=
  Int.rec (motive := fun _ => R Ω) (fun m => Int.rec (motive := fun _ => R Ω) (fun n => knatBin op q m n k no) (fun n => optK (intBinA op q (.ofNat m) (.negSucc n)) (fun v => fvK v k) no) b) (fun m => optK (intBinA op q (.negSucc m) b) (fun v => fvK v k) no) a
theorem kintBin_eq (op : BinOp) (q : IntKind) (a b : Int) (k : Value → R Ω) (no : R Ω) : kintBin op q a b k no = optK (intBinA op q a b) k no := by
  have hf : (fun v => fvK v k) = k := funext fun v => fvK_eq v k
  unfold kintBin
  rw [hf]
  cases a with
  | ofNat a => cases b with
    | ofNat b => exact knatBin_eq op q a b k no
    | negSucc b => rfl
  | negSucc a => rfl
def kstrBin (op : BinOp) (a b : ByteArray) (k : Value → R Ω) (no : R Ω) : R Ω := match op with
  | .eql => fbvK (fbytesEq a.data.toList b.data.toList) k
  | .neq => fbvK (fif (fbytesEq a.data.toList b.data.toList) false true) k
  | _ => no
theorem kstrBin_eq (op : BinOp) (a b : ByteArray) (k : Value → R Ω) (no : R Ω) : kstrBin op a b k no = optK (strBinA op a b) k no := by
  unfold kstrBin strBinA
  cases op with
  | eql =>
    refine (fbvK_eq _ _).trans ?_
    rw [fbytesEq_eq]; rfl
  | neq =>
    refine (fbvK_eq _ _).trans ?_
    rw [fbytesEq_eq]
    rw [fif_eq]
    show k (.bool (cond (bytesEq a.data.toList b.data.toList) false true)) = k (.bool (!bytesEq a.data.toList b.data.toList))
    cases bytesEq a.data.toList b.data.toList <;> rfl
  | _ => rfl
def kfastBin (op : BinOp) (x y : Value) (k : Value → R Ω) (no : R Ω) : R Ω :=
  onInt x (fun q a => onInt y (fun l b => fif (kEq q l) (kintBin op q a b k no) no) no) (onStr x (fun a => onStr y (fun b => kstrBin op a b k no) no) no)
theorem kfastBin_eq (op : BinOp) (x y : Value) (k : Value → R Ω) (no : R Ω) : kfastBin op x y k no = optK (fastBin op x y) k no := by
  unfold kfastBin fastBin
  cases x with
  | int q a => cases y with
    | int l b =>
      show fif (kEq q l) (kintBin op q a b k no) no = _
      rw [kEq_eq, kintBin_eq, fif_eq]
      dsimp only
      cases (q == l) <;> rfl
    | _ => rfl
  | string a => cases y with
    | string b => exact kstrBin_eq op a b k no
    | _ => rfl
  | _ => rfl
def keqT (F : FT) (op : BinOp) (t : TypeId) (x y : Value) : Option Value := match funder F t with
  | some d => match eqV d x y with
    | some b => eqNil op b
    | none => none
  | none => none
theorem keqT_eq {F : FT} (h : F.Fits) (op : BinOp) (t : TypeId) (x y : Value) : keqT F op t x y = eqT F.E op t x y := by
  unfold keqT eqT
  rw [funder_eq h]
  rfl
/-- What is made without memory by the model's own tree. -/
def kplain (F : FT) (ρ : Operand → Value) (o : Oper) (s : St) (k : Value → St → R Ω) : R Ω := Option.rec (motive := fun _ => R Ω) (.err []) (fun v => fvK v fun v => k v s) (plainA F.E ρ o)
theorem kplain_eq (F : FT) (ρ : Operand → Value) (o : Oper) (s : St) (k : Value → St → R Ω) : kplain F ρ o s k = (M.of (plainA F.E ρ o) s).thn k := by
  unfold kplain
  rw [of_thn]
  congr 1
  funext v
  exact fvK_eq _ _
def keqCell (d : TypeDesc) (x y : Value) : Option Bool := match d with
  | .int _ => match x with
    | .int k a => match y with
      | .int l b => fif (kEq k l) (some (eqA a b)) none
      | _ => none
    | _ => none
  | .string => match x with
    | .string a => match y with
      | .string b => some (fbytesEq a.data.toList b.data.toList)
      | _ => none
    | _ => none
  | .bool => match x with
    | .bool a => match y with
      | .bool b => some (cond a b (cond b false true))
      | _ => none
    | _ => none
  | _ => none
theorem keqCell_eq (d : TypeDesc) (x y : Value) : keqCell d x y = eqCell d x y := by
  unfold keqCell eqCell
  cases d with
  | int q => cases x with
    | int k a => cases y with
      | int l b => dsimp only; rw [fif_eq, kEq_eq]
      | _ => rfl
    | _ => rfl
  | string => cases x with
    | string a => cases y with
      | string b => dsimp only; rw [fbytesEq_eq]
      | _ => rfl
    | _ => rfl
  | bool => cases x with
    | bool a => cases y with
      | bool b => cases a <;> cases b <;> rfl
      | _ => rfl
    | _ => rfl
  | _ => rfl
def keqFlat (ti : T TI) (xs ys : List Value) (fs : List Field) (k : Bool → R Ω) (no : R Ω) : R Ω := List.rec (motive := fun _ => R Ω) (k true) (fun f _ ih => ti.getK f.type no fun i =>
  Option.rec (motive := fun _ => R Ω) no (fun x => Option.rec (motive := fun _ => R Ω) no (fun y => Option.rec (motive := fun _ => R Ω) no (fun b => fif b ih (k false)) (keqCell i.under x y)) (fnth ys f.offset)) (fnth xs f.offset)) fs
theorem keqFlat_eq {F : FT} (h : F.Fits) (xs ys : List Value) (k : Bool → R Ω) (no : R Ω) : ∀ (fs : List Field), keqFlat F.ti xs ys fs k no = Option.rec (motive := fun _ => R Ω) no k (eqFlat F.E.types xs ys fs)
  | [] => rfl
  | f :: fs => by
    show (F.ti.getK f.type no fun i =>
      Option.rec (motive := fun _ => R Ω) no (fun x => Option.rec (motive := fun _ => R Ω) no (fun y => Option.rec (motive := fun _ => R Ω) no (fun b => fif b (keqFlat F.ti xs ys fs k no) (k false)) (keqCell i.under x y)) (fnth ys f.offset)) (fnth xs f.offset)) = _
    unfold eqFlat
    rw [T.getK_eq, h.ti, fnth_eq, fnth_eq, keqFlat_eq h xs ys k no fs]
    cases tiOf F.E.types f.type with
    | none => rfl
    | some i =>
      dsimp only
      cases xs[f.offset]? with
      | none => rfl
      | some x => cases ys[f.offset]? with
        | none => rfl
        | some y =>
          dsimp only
          rw [keqCell_eq]
          cases eqCell i.under x y with
          | none => rfl
          | some b => cases b <;> rfl
def keqStruct (F : FT) (op : BinOp) (t : TypeId) (x y : Value) (k : Value → R Ω) (no : R Ω) : R Ω := match x with
  | .agg cs => match y with
    | .agg ds => fif (flatT F.E t) (match funder F t with
        | some (.struct fs) => keqFlat F.ti cs.toList ds.toList fs.toList (fun b => match op with
          | .eql => k (.bool b)
          | .neq => fbvK (fif b false true) k
          | _ => no) no
        | _ => no) no
    | _ => no
  | _ => no
theorem keqStruct_eq {F : FT} (h : F.Fits) (op : BinOp) (t : TypeId) (x y : Value) (k : Value → R Ω) (no : R Ω) : keqStruct F op t x y k no = optK (eqStruct F.E op t x y) k no := by
  unfold keqStruct eqStruct
  cases x with
  | agg cs => cases y with
    | agg ds =>
      dsimp only
      rw [funder_eq h, fif_eq]
      cases flatT F.E t with
      | false => rfl
      | true =>
        simp only [cond_true]
        generalize under? F.E t = u
        cases u with
        | none => rfl
        | some d => cases d with
          | struct fs =>
            dsimp only
            rw [keqFlat_eq h]
            cases eqFlat F.E.types cs.toList ds.toList fs.toList with
            | none => rfl
            | some b =>
              dsimp only
              cases op with
              | neq => cases b <;> rfl
              | _ => rfl
          | _ => rfl
    | _ => rfl
  | _ => rfl
/-- .. the rest on numbers and strings. -/
def kfast2 (op : BinOp) (x y : Value) : Option Value := match op with
  | .add => match x with
    | .string a => match y with
      | .string b => fif (Nat.ble (Nat.add (flen a.data.toList) (flen b.data.toList)) (nat_lit 4611686018427387904)) (flKb (fapp a.data.toList b.data.toList) fun l => some (.string ⟨⟨l⟩⟩)) none
      | _ => none
    | _ => none
  | op => fastBin2 op x y
theorem kfast2_eq (op : BinOp) (x y : Value) : kfast2 op x y = fastBin2 op x y := by
  unfold kfast2
  cases op with
  | add => cases x with
    | string a => cases y with
      | string b =>
        dsimp only
        rw [flen_eq, flen_eq, fapp_eq, flKb_eq, fif_eq]
        rfl
      | _ => rfl
    | _ => rfl
  | _ => rfl
def kBinSlow (F : FT) (f : Fr) (o : Oper) (op : BinOp) (t : TypeId) (vx vy : Value) (s : St) (k : Value → St → R Ω) : R Ω := optK (kfast2 op vx vy) (fun v => fvK v fun v => k v s) (optK (keqT F op t vx vy) (fun v => fvK v fun v => k v s) (keqStruct F op t vx vy (fun v => k v s) (kplain F f.feval o s k)))
def kBin (F : FT) (f : Fr) (o : Oper) (op : BinOp) (t : TypeId) (vx vy : Value) (s : St) (k : Value → St → R Ω) : R Ω := kfastBin op vx vy (fun v => k v s) (kBinSlow F f o op t vx vy s k)
theorem kBin_eq {F : FT} (h : F.Fits) (f : Fr) (o : Oper) (op : BinOp) (t : TypeId) (x y : Operand) (s : St) (k : Value → St → R Ω) : kBin F f o op t (f.eval x) (f.eval y) s k = (fBin F.E f.eval o op t x y s).thn k := by
  unfold kBin kBinSlow fBin
  rw [Fr.feval_eq]
  generalize f.eval = ρ
  rw [kfastBin_eq, keqT_eq h, kfast2_eq, keqStruct_eq h, kplain_eq]
  cases fastBin op (ρ x) (ρ y) with
  | some v => rfl
  | none =>
    dsimp only
    cases fastBin2 op (ρ x) (ρ y) with
    | some v => exact fvK_eq _ _
    | none =>
      dsimp only
      cases eqT F.E op t (ρ x) (ρ y) with
      | some v => exact fvK_eq _ _
      | none =>
        dsimp only
        cases eqStruct F.E op t (ρ x) (ρ y) with
        | some v => rfl
        | none => rfl

/-! ### Slices, strings, calls -/
def kbounds (len cap : Nat) (lo hi mx : Option Value) (k : Nat → Nat → Nat → R Ω) : R Ω := match boundsA len cap lo hi mx with
  | some (l, h, m) => k l h m
  | none => .err []
def ksliceK (F : FT) (e : TypeId) (id off len cap : Nat) (lo hi mx : Option Value) (s : St) (k : Value → St → R Ω) : R Ω := kinfo F e fun _ size _ _ _ => kbounds len cap lo hi mx fun l h m =>
  fnK (fif (Nat.beq m l) off (Nat.add off (Nat.mul l size))) fun o => fnK (Nat.sub h l) fun n => fnK (Nat.succ (Nat.sub m l)) fun c => k (.slice (some ⟨id, o, none⟩) n c) s
theorem ksliceK_eq {F : FT} (hF : F.Fits) (e : TypeId) (id off len cap : Nat) (lo hi mx : Option Value) (s : St) (k : Value → St → R Ω) : ksliceK F e id off len cap lo hi mx s k = (sliceK F.E e id off len cap lo hi mx s).thn k := by
  unfold ksliceK sliceK kbounds
  rw [fif_eq]
  rw [kinfo_eq hF e s fun _ size _ _ _ s => match boundsA len cap lo hi mx with
    | some (l, h, m) => fnK (cond (Nat.beq m l) off (Nat.add off (Nat.mul l size))) fun o => fnK (Nat.sub h l) fun n => fnK (Nat.succ (Nat.sub m l)) fun c => k (.slice (some ⟨id, o, none⟩) n c) s
    | none => .err [], bind_thn]
  refine thn_congr _ fun i s => ?_
  cases boundsA len cap lo hi mx with
  | none => rfl
  | some q =>
    obtain ⟨l, h, m⟩ := q
    dsimp only
    rw [fnK_eq, fnK_eq, fnK_eq]
    rfl
def ksliceU (F : FT) (e : TypeId) (id off len : Nat) (lo hi : Option Value) (s : St) (k : Value → St → R Ω) : R Ω := kinfo F e fun _ size _ _ _ =>
  kget id s fun b s => match b with
    | .cells c es _ _ _ => kbounds len (froom size off len (flen c)) lo hi none fun l h _ =>
      fif (Nat.beq size es) (fnK (Nat.add off (Nat.mul l size)) fun o => fnK (Nat.sub h l) fun n => k (.slice (some ⟨id, o, none⟩) n (nat_lit 0)) s) (.err [])
    | _ => .err []
theorem ksliceU_eq {F : FT} (hF : F.Fits) (e : TypeId) (id off len : Nat) (lo hi : Option Value) (s : St) (k : Value → St → R Ω) : ksliceU F e id off len lo hi s k = (sliceU F.E e id off len lo hi s).thn k := by
  unfold ksliceU sliceU
  rw [fif_eq]
  rw [kinfo_eq hF e s fun _ size _ _ _ s => kget id s fun b s => match b with
    | .cells c es _ _ _ => kbounds len (froom size off len (flen c)) lo hi none fun l h _ =>
      cond (Nat.beq size es) (fnK (Nat.add off (Nat.mul l size)) fun o => fnK (Nat.sub h l) fun n => k (.slice (some ⟨id, o, none⟩) n (nat_lit 0)) s) (.err [])
    | _ => .err [], bind_thn]
  refine thn_congr _ fun i s => ?_
  rw [kget_eq, bind_thn]
  refine thn_congr _ fun b s => ?_
  cases b with
  | cells c es own old par =>
    dsimp only
    unfold kbounds
    rw [flen_eq, froom_eq]
    cases boundsA len (room i.size off len c.length) lo hi none with
    | none => rfl
    | some q =>
      obtain ⟨l, h, m⟩ := q
      dsimp only
      rw [fnK_eq, fnK_eq, cond_thn]
      rfl
  | _ => rfl
def klift {α : Type} (m : M α) (s : St) (k : α → St → R Ω) : R Ω := R.rec (motive := fun _ => R Ω) k (fun c => .err c) (m s)
theorem klift_eq {α : Type} (m : M α) (s : St) (k : α → St → R Ω) : klift m s k = (m s).thn k := by
  unfold klift
  cases m s <;> rfl
def kliftV (m : M Value) (s : St) (k : Value → St → R Ω) : R Ω := R.rec (motive := fun _ => R Ω) (fun v s => fvK v fun v => k v s) (fun c => .err c) (m s)
theorem kliftV_eq (m : M Value) (s : St) (k : Value → St → R Ω) : kliftV m s k = (m s).thn k := by
  unfold kliftV
  cases m s with
  | ok v s => exact fvK_eq _ _
  | err c => rfl
def ksliceA (F : FT) (t : TypeId) (x : Value) (lo hi mx : Option Value) (s : St) (k : Value → St → R Ω) : R Ω :=
  kinfo F t fun under _ _ _ _ => match under with
  | .array n e => kptr x fun id off => ksliceK F e id off n n lo hi mx s k
  | .slice e => match x with
    | .slice (some ⟨id, off, none⟩) len c => Nat.rec (motive := fun _ => R Ω) (Option.rec (motive := fun _ => R Ω) (ksliceU F e id off len lo hi s k) (fun _ => kliftV (sliceX F.E e id off len lo hi mx) s k) mx) (fun c _ => ksliceK F e id off len c lo hi mx s k) c
    | x => kliftV (sliceA F.E t x lo hi mx) s k
  | _ => .err []
theorem ksliceA_eq {F : FT} (hF : F.Fits) (t : TypeId) (x : Value) (lo hi mx : Option Value) (s : St) (k : Value → St → R Ω) : ksliceA F t x lo hi mx s k = (sliceA F.E t x lo hi mx s).thn k := by
  unfold ksliceA
  rw [kinfo_eq hF t s fun under _ _ _ _ s => match under with
  | .array n e => kptr x fun id off => ksliceK F e id off n n lo hi mx s k
  | .slice e => match x with
    | .slice (some ⟨id, off, none⟩) len c => Nat.rec (motive := fun _ => R Ω) (Option.rec (motive := fun _ => R Ω) (ksliceU F e id off len lo hi s k) (fun _ => kliftV (sliceX F.E e id off len lo hi mx) s k) mx) (fun c _ => ksliceK F e id off len c lo hi mx s k) c
    | x => kliftV (sliceA F.E t x lo hi mx) s k
  | _ => .err []]
  unfold sliceA
  rw [bind_thn]
  cases hti : tiOf F.E.types t with
  | none =>
    have : tinfo F.E t s = .err [] := by unfold tinfo; rw [hti]; rfl
    rw [this]; rfl
  | some i =>
    have hti2 : tinfo F.E t s = .ok i s := by unfold tinfo; rw [hti]; rfl
    rw [hti2]
    show (match i.under with
      | .array n e => kptr x fun id off => ksliceK F e id off n n lo hi mx s k
      | .slice e => match x with
        | .slice (some ⟨id, off, none⟩) len c => Nat.rec (motive := fun _ => R Ω) (Option.rec (motive := fun _ => R Ω) (ksliceU F e id off len lo hi s k) (fun _ => kliftV (sliceX F.E e id off len lo hi mx) s k) mx) (fun c _ => ksliceK F e id off len c lo hi mx s k) c
        | x => kliftV (sliceA F.E t x lo hi mx) s k
      | _ => .err []) = R.thn _ k
    cases hu : i.under with
    | array n e =>
      dsimp only
      cases x with
      | pointer a => cases a with
        | none => rfl
        | some ad =>
          obtain ⟨id, off, sp⟩ := ad
          cases sp with
          | some _ => rfl
          | none => exact ksliceK_eq hF e id off n n lo hi mx s k
      | _ => rfl
    | slice e =>
      dsimp only
      have lift : ∀ y, kliftV (sliceA F.E t y lo hi mx) s k = ((match TypeDesc.slice e, y with
        | .array n e, .pointer (some ⟨id, off, none⟩) => sliceK F.E e id off n n lo hi mx
        | .slice e, .slice (some ⟨id, off, none⟩) len (c + 1) => sliceK F.E e id off len c lo hi mx
        | .slice e, .slice (some ⟨id, off, none⟩) len 0 => match mx with
          | some _ => sliceX F.E e id off len lo hi mx
          | none => sliceU F.E e id off len lo hi
        | .slice e, .slice none 0 0 => sliceN F.E e lo hi mx
        | _, _ => M.fail : M Value) s).thn k := fun y => by
        rw [kliftV_eq]
        unfold sliceA
        rw [bind_thn, hti2]
        show R.thn _ k = _
        rw [hu]
        rfl
      cases x with
      | slice a len c => cases a with
        | none => exact lift _
        | some ad =>
          obtain ⟨id, off, sp⟩ := ad
          cases sp with
          | some _ => exact lift _
          | none => cases c with
            | zero => cases mx with
              | none => exact ksliceU_eq hF e id off len lo hi s k
              | some m => exact kliftV_eq _ s k
            | succ c => exact ksliceK_eq hF e id off len c lo hi mx s k
      | _ => exact lift _
    | _ => rfl
def kSlice (F : FT) (t : TypeId) (v : Value) (lo hi mx : Option Value) (s : St) (k : Value → St → R Ω) : R Ω := match v with
    | .string b => optK (strSlice F.E t b lo hi mx) (fun v => k v s) (.err [])
    | x => ksliceA F t x lo hi mx s k
theorem kSlice_eq {F : FT} (hF : F.Fits) (ρ : Operand → Value) (t : TypeId) (x : Operand) (lo hi mx : Option Operand) (s : St) (k : Value → St → R Ω) : kSlice F t (ρ x) (lo.map ρ) (hi.map ρ) (mx.map ρ) s k = (fSlice F.E ρ t x lo hi mx s).thn k := by
  unfold kSlice fSlice
  cases ρ x with
  | string b =>
    dsimp only
    rw [of_thn]
    rfl
  | _ => exact ksliceA_eq hF t _ _ _ _ s k
def kstrIndex (F : FT) (t : TypeId) (b : ByteArray) (ix : Value) (k : Value → R Ω) : R Ω := match funder F t with
  | some .string => Option.rec (motive := fun _ => R Ω) (.err []) (fun n => Option.rec (motive := fun _ => R Ω) (.err []) (fun b => fivK .u8 b.toNat k) (fnth b.data.toList n)) (natA ix)
  | _ => .err []
theorem kstrIndex_eq {F : FT} (hF : F.Fits) (t : TypeId) (b : ByteArray) (ix : Value) (k : Value → R Ω) : kstrIndex F t b ix k = optK (strIndex F.E t b ix) k (.err []) := by
  unfold kstrIndex strIndex
  rw [funder_eq hF]
  generalize under? F.E t = u
  cases u with
  | none => rfl
  | some d => cases d with
    | string =>
      dsimp only
      cases natA ix with
      | none => rfl
      | some n =>
        dsimp only
        rw [fnth_eq]
        cases b.data.toList[n]? with
        | none => rfl
        | some b => exact fivK_eq _ _ _
    | _ => rfl
def kIndex (F : FT) (f : Fr) (o : Oper) (t : TypeId) (vx vi : Value) (s : St) (k : Value → St → R Ω) : R Ω := match vx with
    | .string b => kstrIndex F t b vi fun v => k v s
    | _ => kplain F f.feval o s k
theorem kIndex_eq {F : FT} (hF : F.Fits) (f : Fr) (o : Oper) (t : TypeId) (x ix : Operand) (s : St) (k : Value → St → R Ω) : kIndex F f o t (f.eval x) (f.eval ix) s k = (fIndex F.E f.eval o t x ix s).thn k := by
  unfold kIndex fIndex
  rw [Fr.feval_eq]
  generalize f.eval = ρ
  cases ρ x with
  | string b =>
    dsimp only
    rw [kstrIndex_eq hF, of_thn]
    rfl
  | _ => exact kplain_eq F ρ o s k
def kMakeSlice (F : FT) (t : TypeId) (vl vc : Value) (s : St) (k : Value → St → R Ω) : R Ω := Option.rec (motive := fun _ => R Ω) (.err []) (fun l => Option.rec (motive := fun _ => R Ω) (.err []) (fun c =>
  kinfo F t fun under _ _ _ _ => match under with
    | .slice e => kinfo F e fun _ size bytes zero _ => fif (Nat.ble l c && (Nat.ble c (nat_lit 1000000) && Nat.ble bytes (nat_lit 1000000)))
      (kcells (frep zero c) size s fun id s => fnK (Nat.succ c) fun c => k (.slice (some ⟨id, nat_lit 0, none⟩) l c) s) (.err [])
    | _ => .err []) (natA vc)) (natA vl)
theorem kMakeSlice_eq {F : FT} (hF : F.Fits) (ρ : Operand → Value) (t : TypeId) (l c : Operand) (s : St) (k : Value → St → R Ω) : kMakeSlice F t (ρ l) (ρ c) s k = (fMakeSlice F.E ρ t l c s).thn k := by
  unfold kMakeSlice fMakeSlice
  cases natA (ρ l) with
  | none => rfl
  | some l => cases natA (ρ c) with
    | none => rfl
    | some c =>
      dsimp only
      unfold makeSliceA
      rw [fif_eq]
      rw [kinfo_eq hF t s fun under _ _ _ _ s => match under with
        | .slice e => kinfo F e fun _ size bytes zero _ => cond (Nat.ble l c && (Nat.ble c (nat_lit 1000000) && Nat.ble bytes (nat_lit 1000000)))
          (kcells (frep zero c) size s fun id s => fnK (Nat.succ c) fun c => k (.slice (some ⟨id, nat_lit 0, none⟩) l c) s) (.err [])
        | _ => .err [], bind_thn]
      refine thn_congr _ fun i s => ?_
      cases i.under with
      | slice e =>
        dsimp only
        rw [kinfo_eq hF e s fun _ size bytes zero _ s => cond (Nat.ble l c && (Nat.ble c (nat_lit 1000000) && Nat.ble bytes (nat_lit 1000000)))
          (kcells (frep zero c) size s fun id s => fnK (Nat.succ c) fun c => k (.slice (some ⟨id, nat_lit 0, none⟩) l c) s) (.err []), bind_thn]
        refine thn_congr _ fun j s => ?_
        rw [kcells_eq, frep_eq, cond_thn, bind_thn]
        have : (fun (id : Nat) (s : St) => fnK (Nat.succ c) fun c => k (.slice (some ⟨id, nat_lit 0, none⟩) l c) s) = fun id s => k (.slice (some ⟨id, 0, none⟩) l (capK c)) s := by
          funext id s; rw [fnK_eq]; rfl
        rw [this]
        rfl
      | _ => rfl
def kstringA (F : FT) (src dst : TypeId) (x : Value) (s : St) (k : Value → St → R Ω) : R Ω := match funder F src with
  | some (.slice e) => match funder F dst with
    | some .string => match funder F e with
      | some (.int .u8) => match x with
        | .slice none 0 0 => k (.string .empty) s
        | .slice (some ⟨id, off, none⟩) n _ => kread id off n s fun c s => ftoStr (.err []) c fun r => k (.string ⟨⟨r⟩⟩) s
        | _ => .err []
      | _ => .err []
    | _ => .err []
  | _ => .err []
theorem kstringA_eq {F : FT} (hF : F.Fits) (src dst : TypeId) (x : Value) (s : St) (k : Value → St → R Ω) : kstringA F src dst x s k = (stringA F.E src dst x s).thn k := by
  unfold kstringA stringA
  rw [funder_eq hF, funder_eq hF]
  generalize under? F.E src = u1
  generalize under? F.E dst = u2
  cases u1 with
  | none => rfl
  | some d1 => cases d1 with
    | slice e =>
      dsimp only
      rw [funder_eq hF]
      generalize under? F.E e = u3
      cases u2 with
      | none => rfl
      | some d2 => cases d2 with
        | string =>
          dsimp only
          cases u3 with
          | none => rfl
          | some d3 => cases d3 with
            | int q => cases q with
              | u8 =>
                dsimp only
                have main : ∀ id off n, (kread id off n s fun c s => ftoStr (.err []) c fun r => k (.string ⟨⟨r⟩⟩) s) = (((readAt id off n).bind fun c => (M.of (toStr c [])).bind fun s => M.pure (.string s)) s).thn k := fun id off n => by
                  rw [kread_eq, bind_thn]
                  refine thn_congr _ fun c s => ?_
                  have := ftoStr_eq (R.err []) c [] (fun b => k (Value.string b) s)
                  simp only [List.reverse_nil, List.nil_append] at this
                  rw [this, bind_thn, of_thn]
                  cases toStr c [] <;> rfl
                cases x with
                | slice a n c => cases a with
                  | none => cases n with
                    | zero => cases c <;> rfl
                    | succ n => rfl
                  | some ad =>
                    obtain ⟨id, off, sp⟩ := ad
                    cases sp with
                    | some _ => rfl
                    | none => exact main id off n
                | _ => rfl
              | _ => rfl
            | _ => rfl
        | _ => rfl
    | _ => rfl
/-- A conversion. -/
def kConvSlow (F : FT) (src dst : TypeId) (v : Value) (s : St) (k : Value → St → R Ω) : R Ω := match v with
      | .string b => kliftV (bytesA F.E src dst b) s k
      | x => kstringA F src dst x s k
def kConvert (F : FT) (src dst : TypeId) (v : Value) (s : St) (k : Value → St → R Ω) : R Ω := optK (convA F.E src dst v) (fun v => fvK v fun v => k v s) (kConvSlow F src dst v s k)
theorem kConvert_eq {F : FT} (hF : F.Fits) (ρ : Operand → Value) (src dst : TypeId) (x : Operand) (s : St) (k : Value → St → R Ω) : kConvert F src dst (ρ x) s k = (fConvert F.E ρ src dst x s).thn k := by
  unfold kConvert kConvSlow fConvert
  cases convA F.E src dst (ρ x) with
  | some v => exact fvK_eq _ _
  | none =>
    dsimp only
    unfold convM
    cases ρ x with
    | string b => exact kliftV_eq _ s k
    | _ =>
      dsimp only [optK]
      exact kstringA_eq hF src dst _ s k

def kappGrow (size bytes : Nat) (olds : List Value) (len n : Nat) (xs : List Value) (s : St) (k : Value → St → R Ω) : R Ω :=
  fif (growOk (Nat.add len n) bytes) (kcells (fapp olds xs) size s fun id' s => fnK (Nat.add len n) fun m => k (.slice (some ⟨id', nat_lit 0, none⟩) m (nat_lit 0)) s) (.err [])
theorem kappGrow_eq (size bytes : Nat) (olds : List Value) (len n : Nat) (xs : List Value) (s : St) (k : Value → St → R Ω) : kappGrow size bytes olds len n xs s k = (appGrow size bytes olds len n xs s).thn k := by
  unfold kappGrow appGrow
  rw [kcells_eq, fapp_eq, cond_thn, bind_thn]
  have : (fun (id' : Nat) (s : St) => fnK (Nat.add len n) fun m => k (.slice (some ⟨id', nat_lit 0, none⟩) m (nat_lit 0)) s) = fun id' s => k (.slice (some ⟨id', 0, none⟩) (len + n) 0) s := by
    funext id s; rw [fnK_eq]; rfl
  rw [this]
  rw [fif_eq]
  rfl
def kappKnown (size bytes : Nat) (id off len c n : Nat) (xs : List Value) (s : St) (k : Value → St → R Ω) : R Ω :=
  fif (Nat.ble (Nat.add len n) c)
    (fif (Nat.beq n (nat_lit 0)) (k (.slice (some ⟨id, off, none⟩) len (Nat.succ c)) s)
    (kwrite id (Nat.add off (Nat.mul len size)) xs s fun s => fnK (Nat.add len n) fun m => k (.slice (some ⟨id, off, none⟩) m (Nat.succ c)) s))
  (kread id off (Nat.mul len size) s fun olds s => kappGrow size bytes olds len n xs s k)
theorem kappKnown_eq (size bytes : Nat) (id off len c n : Nat) (xs : List Value) (s : St) (k : Value → St → R Ω) : kappKnown size bytes id off len c n xs s k = (appKnown size bytes id off len c n xs s).thn k := by
  unfold kappKnown appKnown
  have : (fun (s : St) => fnK (Nat.add len n) fun m => k (.slice (some ⟨id, off, none⟩) m (Nat.succ c)) s) = fun s => k (.slice (some ⟨id, off, none⟩) (len + n) (c + 1)) s := by
    funext s; rw [fnK_eq]; rfl
  rw [this, kwrite_eq, kread_eq, cond_thn, cond_thn, bind_thn, bind_thn]
  have h2 : (fun (olds : List Value) (s : St) => kappGrow size bytes olds len n xs s k) = fun olds s => (appGrow size bytes olds len n xs s).thn k := by
    funext olds s; exact kappGrow_eq size bytes olds len n xs s k
  rw [h2]
  rw [fif_eq]
  rfl
def kappUnknown (size bytes : Nat) (id off len n : Nat) (xs : List Value) (s : St) (k : Value → St → R Ω) : R Ω :=
  fif (Nat.beq n (nat_lit 0)) (k (.slice (some ⟨id, off, none⟩) len (nat_lit 0)) s)
  (fif (growOk (Nat.add len n) bytes)
    (kget id s fun b s => match b with
    | .cells c es true false par =>
      fif (Nat.beq es size && Nat.ble (Nat.add off (Nat.mul len size)) (flen c))
        (fif (Nat.ble (Nat.add len n) (froom size off len (flen c)))
          (kwrite id (Nat.add off (Nat.mul len size)) xs s fun s => k (.slice (some ⟨id, off, none⟩) (Nat.add len n) (nat_lit 0)) s)
        (fif (Nat.beq (Nat.add off (Nat.mul len size)) (flen c))
          (kput id (.cells c es true true par) s fun s => flK (fapp ((c.drop off).take (len * size)) xs) fun c' => knew (.cells c' size true false (id :: par)) s fun id' s => k (.slice (some ⟨id', nat_lit 0, none⟩) (Nat.add len n) (nat_lit 0)) s)
          (kkill (id :: par) s fun s => kcells (fapp ((c.drop off).take (len * size)) xs) size s fun id' s => k (.slice (some ⟨id', nat_lit 0, none⟩) (Nat.add len n) (nat_lit 0)) s)))
        (.err [])
    | _ => .err [])
  (.err []))
theorem kappUnknown_eq (size bytes : Nat) (id off len n : Nat) (xs : List Value) (s : St) (k : Value → St → R Ω) : kappUnknown size bytes id off len n xs s k = (appUnknown size bytes id off len n xs s).thn k := by
  unfold kappUnknown appUnknown
  rw [fif_eq]
  rw [cond_thn, cond_thn, bind_thn, kget_eq]
  congr 1
  congr 1
  refine thn_congr _ fun b s => ?_
  cases b with
  | cells c es own old par => cases own with
    | false => rfl
    | true => cases old with
      | true => rfl
      | false =>
        dsimp only
        rw [flen_eq, froom_eq, fapp_eq, kwrite_eq, kput_eq, kkill_eq, cond_thn, cond_thn, cond_thn, bind_thn, bind_thn, bind_thn]
        have h1 : (fun (_ : Unit) (s : St) => flK ((c.drop off).take (len * size) ++ xs) fun c' => knew (.cells c' size true false (id :: par)) s fun id' s => k (.slice (some ⟨id', nat_lit 0, none⟩) (Nat.add len n) (nat_lit 0)) s)
          = fun _ s => (((newBlk (.cells ((c.drop off).take (len * size) ++ xs) size true false (id :: par))).bind fun id' => M.pure (.slice (some ⟨id', 0, none⟩) (len + n) 0)) s).thn k := by
          funext _ s; rw [flK_eq, knew_eq, bind_thn]; rfl
        have h2 : (fun (_ : Unit) (s : St) => kcells ((c.drop off).take (len * size) ++ xs) size s fun id' s => k (.slice (some ⟨id', nat_lit 0, none⟩) (Nat.add len n) (nat_lit 0)) s)
          = fun _ s => (((newBlk (.cells ((c.drop off).take (len * size) ++ xs) size true false [])).bind fun id' => M.pure (.slice (some ⟨id', 0, none⟩) (len + n) 0)) s).thn k := by
          funext _ s; rw [kcells_eq, bind_thn]; rfl
        rw [h1, h2]
        rfl
  | _ => rfl
def kappendA (size bytes : Nat) (v : Value) (n : Nat) (xs : List Value) (s : St) (k : Value → St → R Ω) : R Ω := match v with
  | .slice a len c => Option.rec (motive := fun _ => R Ω) (fif (Nat.beq len (nat_lit 0)) (fif (Nat.beq c (nat_lit 0)) (fif (Nat.beq n (nat_lit 0)) (k (.slice none (nat_lit 0) (nat_lit 0)) s) (kappGrow size bytes [] (nat_lit 0) n xs s k)) (.err [])) (.err []))
    (fun ad => Addr.rec (motive := fun _ => R Ω) (fun id off sp => Option.rec (motive := fun _ => R Ω) (Nat.rec (motive := fun _ => R Ω) (kappUnknown size bytes id off len n xs s k) (fun c _ => kappKnown size bytes id off len c n xs s k) c) (fun _ => .err []) sp) ad) a
  | _ => .err []
theorem kappendA_eq (size bytes : Nat) (v : Value) (n : Nat) (xs : List Value) (s : St) (k : Value → St → R Ω) : kappendA size bytes v n xs s k = (appendA size bytes v n xs s).thn k := by
  unfold kappendA appendA
  cases v with
  | slice a len c => cases a with
    | none => cases len with
      | zero => cases c with
        | zero =>
          rw [fif_eq]
          show cond (Nat.beq n 0) (k (.slice none 0 0) s) (kappGrow size bytes [] 0 n xs s k) = _
          rw [kappGrow_eq]
          show _ = R.thn ((cond (Nat.beq n 0) (M.pure (.slice none 0 0)) (appGrow size bytes [] 0 n xs) : M Value) s) k
          rw [cond_thn]
          rfl
        | succ c => rfl
      | succ l => rfl
    | some ad =>
      obtain ⟨id, off, sp⟩ := ad
      cases sp with
      | some _ => rfl
      | none => cases c with
        | zero => exact kappUnknown_eq size bytes id off len n xs s k
        | succ c => exact kappKnown_eq size bytes id off len c n xs s k
  | _ => rfl
def ksrc (size : Nat) (x : Value) (s : St) (k : Nat → List Value → St → R Ω) : R Ω := match x with
  | .slice none 0 0 => k (nat_lit 0) [] s
  | .slice (some ⟨id, off, none⟩) n _ => kread id off (Nat.mul n size) s fun c s => k n c s
  | .string b => fif (Nat.beq size (nat_lit 1)) (k (flen b.data.toList) (fmap (fun b => .int .u8 b.toNat) b.data.toList) s) (.err [])
  | _ => .err []
theorem ksrc_eq (size : Nat) (x : Value) (s : St) (k : Nat → List Value → St → R Ω) : ksrc size x s k = (srcCells size x s).thn fun p s => k p.1 p.2 s := by
  unfold ksrc srcCells
  cases x with
  | slice a n c => cases a with
    | none => cases n with
      | zero => cases c <;> rfl
      | succ n => rfl
    | some ad =>
      obtain ⟨id, off, sp⟩ := ad
      cases sp with
      | some _ => rfl
      | none =>
        dsimp only
        rw [kread_eq, bind_thn]
        rfl
  | string b =>
    dsimp only
    rw [flen_eq, fmap_eq, cond_thn]
    rw [fif_eq]
    rfl
  | _ => rfl
def kappendB (F : FT) (st xt : TypeId) (v x : Value) (s : St) (k : Value → St → R Ω) : R Ω :=
  kinfo F st fun under _ _ _ _ => kinfo F xt fun underx _ _ _ _ => match under with
    | .slice e => fif (srcType underx) (kinfo F e fun _ size bytes _ _ => ksrc size x s fun n c s => kappendA size bytes v n c s k)
      (fif (intType underx) (kinfo F e fun _ size bytes zero _ => Option.rec (motive := fun _ => R Ω) (.err []) (fun n => fif (growOk n bytes) (kappendA size bytes v n (frep zero n) s k) (.err [])) (natA x)) (.err []))
    | _ => .err []
theorem kappendB_eq {F : FT} (hF : F.Fits) (st xt : TypeId) (v x : Value) (s : St) (k : Value → St → R Ω) : kappendB F st xt v x s k = (appendB F.E st xt v x s).thn k := by
  unfold kappendB appendB
  rw [fif_eq]
  rw [kinfo_eq hF st s fun under _ _ _ _ s => kinfo F xt fun underx _ _ _ _ => match under with
    | .slice e => cond (srcType underx) (kinfo F e fun _ size bytes _ _ => ksrc size x s fun n c s => kappendA size bytes v n c s k)
      (cond (intType underx) (kinfo F e fun _ size bytes zero _ => Option.rec (motive := fun _ => R Ω) (.err []) (fun n => cond (growOk n bytes) (kappendA size bytes v n (frep zero n) s k) (.err [])) (natA x)) (.err []))
    | _ => .err [], bind_thn]
  refine thn_congr _ fun i s => ?_
  rw [kinfo_eq hF xt s fun underx _ _ _ _ s => match i.under with
    | .slice e => cond (srcType underx) (kinfo F e fun _ size bytes _ _ => ksrc size x s fun n c s => kappendA size bytes v n c s k)
      (cond (intType underx) (kinfo F e fun _ size bytes zero _ => Option.rec (motive := fun _ => R Ω) (.err []) (fun n => cond (growOk n bytes) (kappendA size bytes v n (frep zero n) s k) (.err [])) (natA x)) (.err []))
    | _ => .err [], bind_thn]
  refine thn_congr _ fun ix s => ?_
  cases i.under with
  | slice e =>
    dsimp only
    rw [cond_thn, cond_thn]
    rw [kinfo_eq hF e s fun _ size bytes _ _ s => ksrc size x s fun n c s => kappendA size bytes v n c s k, kinfo_eq hF e s fun _ size bytes zero _ s => Option.rec (motive := fun _ => R Ω) (.err []) (fun n => cond (growOk n bytes) (kappendA size bytes v n (frep zero n) s k) (.err [])) (natA x), bind_thn, bind_thn]
    have h1 : ((tinfo F.E e s).thn fun i s => ksrc i.size x s fun n c s => kappendA i.size i.bytes v n c s k) = (tinfo F.E e s).thn fun a s' => (((srcCells a.size x).bind fun nc => appendA a.size a.bytes v nc.1 nc.2) s').thn k :=
      thn_congr _ fun j s => by
        rw [ksrc_eq, bind_thn]
        exact thn_congr _ fun p s => kappendA_eq _ _ _ _ _ s k
    have h2 : ((tinfo F.E e s).thn fun i s => Option.rec (motive := fun _ => R Ω) (.err []) (fun n => cond (growOk n i.bytes) (kappendA i.size i.bytes v n (frep i.zero n) s k) (.err [])) (natA x)) = (tinfo F.E e s).thn fun a s' => (((M.of (natA x)).bind fun n => bif growOk n a.bytes then appendA a.size a.bytes v n (repeatA a.zero n) else M.fail) s').thn k :=
      thn_congr _ fun j s => by
        rw [bind_thn, of_thn]
        cases natA x with
        | none => rfl
        | some n =>
          dsimp only
          rw [cond_thn, kappendA_eq, frep_eq]
          rfl
    rw [h1, h2]
    rfl
  | _ => rfl
def kbuiltin (F : FT) (b : Builtin) (ats : List TypeId) (args : List Value) (s : St) (k : Value → St → R Ω) : R Ω := match b with
  | .len => match args with
    | x :: _ => optK (glenA F ats x) (fun v => fvK v fun v => k v s) (.err [])
    | [] => .err []
  | .append => match args with
    | [v, x] => match ats with
      | [st, xt] => kappendB F st xt v x s k
      | _ => .err []
    | _ => .err []
  | b => kliftV (builtinA F.E b ats args) s k
theorem kbuiltin_eq {F : FT} (hF : F.Fits) (b : Builtin) (ats : List TypeId) (args : List Value) (s : St) (k : Value → St → R Ω) : kbuiltin F b ats args s k = (builtinA F.E b ats args s).thn k := by
  unfold kbuiltin
  cases b with
  | len =>
    dsimp only
    cases args with
    | nil => rfl
    | cons x r =>
      dsimp only
      rw [glenA_eq hF]
      show _ = (M.of (lenA F.E ats x) s).thn k
      rw [of_thn]
      cases lenA F.E ats x with
      | none => rfl
      | some v => exact fvK_eq _ _
  | append =>
    dsimp only
    rcases args with _ | ⟨v, _ | ⟨x, _ | ⟨y, r⟩⟩⟩
    · rfl
    · rfl
    · rcases ats with _ | ⟨a, _ | ⟨b, _ | ⟨c, r⟩⟩⟩
      · rfl
      · rfl
      · exact kappendB_eq hF a b v x s k
      · rfl
    · rfl
  | _ => exact kliftV_eq _ s k

/-- What is called, by continuation. -/
def KCall (Ω : Type) : Type := Cal → List Value → St → (Value → St → R Ω) → R Ω
def KFits (kc : KCall Ω) (call : Cal → List Value → M Value) : Prop := ∀ c args s k, kc c args s k = (call c args s).thn k
def kcallA (F : FT) (kc : KCall Ω) (f : Value) (args : List Value) (s : St) (k : Value → St → R Ω) : R Ω := match f with
  | .func fn first captured => match fn with
    | .func g => Option.rec (motive := fun _ => R Ω) (.err []) (fun fn => Option.rec (motive := fun _ => R Ω) (kliftV (callA F.E (fun _ _ => M.fail) f args) s k) (fun _ => kc (.fn g) (fapp first.toList (fapp args captured.toList)) s k) fn.body) (F.fn.fget g)
    | .yield id => match first.toList with
      | [] => match captured.toList with
        | [] => kc (.yl id) args s k
        | _ => .err []
      | _ => .err []
    | _ => .err []
  | _ => .err []
theorem kcallA_eq {F : FT} (hF : F.Fits) {kc : KCall Ω} {call : Cal → List Value → M Value} (hc : KFits kc call) (f : Value) (args : List Value) (s : St) (k : Value → St → R Ω) : kcallA F kc f args s k = (callA F.E call f args s).thn k := by
  cases f with
  | func fn first captured => cases fn with
    | func g =>
      have hcall : ∀ c' : Cal → List Value → M Value, callA F.E c' (.func (.func g) first captured) args = match F.E.funcs.get g with
        | none => M.fail
        | some fn => match fn.body with
          | some _ => c' (.fn g) (first.toList ++ args ++ captured.toList)
          | none => bif (first.toList ++ args ++ captured.toList).all plain then match value? F.E.P (callFunc g ⟨first.toList ++ args ++ captured.toList⟩) with
              | some (.value v) => bif plain v then M.pure v else M.fail
              | _ => M.fail
            else M.fail := fun c' => rfl
      show Option.rec (motive := fun _ => R Ω) (.err []) (fun fn => Option.rec (motive := fun _ => R Ω) (kliftV (callA F.E (fun _ _ => M.fail) (.func (.func g) first captured) args) s k) (fun _ => kc (.fn g) (fapp first.toList (fapp args captured.toList)) s k) fn.body) (F.fn.fget g) = _
      rw [T.fget_eq, hF.fn, kliftV_eq, fapp_eq, fapp_eq, hc, ← List.append_assoc, hcall, hcall]
      generalize F.E.funcs.get g = q
      cases q with
      | none => rfl
      | some fn =>
        dsimp only
        generalize fn.body = b
        cases b <;> rfl
    | yield id =>
      obtain ⟨first⟩ := first
      obtain ⟨captured⟩ := captured
      cases first with
      | nil => cases captured with
        | nil => exact hc _ _ _ _
        | cons _ _ => rfl
      | cons _ _ => rfl
    | _ => rfl
  | _ => rfl
def kCall (F : FT) (kc : KCall Ω) (f : Fr) (o : Oper) (c : Call) (s : St) (k : Value → St → R Ω) : R Ω := match c.callee with
    | .value x => f.evalK x fun v => f.evalL c.args.toList fun vs => kcallA F kc v vs s k
    | .builtin b => match b with
      | .min => kplain F f.feval o s k
      | .max => kplain F f.feval o s k
      | b => f.evalL c.args.toList fun vs => kbuiltin F b c.argTypes.toList vs s k
    | _ => .err []
theorem kCall_eq {F : FT} (hF : F.Fits) {kc : KCall Ω} {call : Cal → List Value → M Value} (hc : KFits kc call) (f : Fr) (o : Oper) (c : Call) (s : St) (k : Value → St → R Ω) : kCall F kc f o c s k = (fCall F.E call f.eval o c s).thn k := by
  unfold kCall fCall
  rw [Fr.feval_eq]
  cases c.callee with
  | value x =>
    dsimp only
    rw [f.evalK_eq, f.evalL_eq]
    exact kcallA_eq hF hc _ _ s k
  | builtin b => cases b with
    | min => exact kplain_eq F f.eval o s k
    | max => exact kplain_eq F f.eval o s k
    | _ =>
      dsimp only
      rw [f.evalL_eq]
      exact kbuiltin_eq hF _ _ _ s k
  | _ => rfl
/-- What is rare. -/
def kSlow (F : FT) (f : Fr) (o : Oper) (s : St) (k : Value → St → R Ω) : R Ω := kliftV (faop F.E (fun _ _ => M.fail) f.feval o) s k
theorem kSlow_eq (F : FT) (f : Fr) (o : Oper) (s : St) (k : Value → St → R Ω) : kSlow F f o s k = (faop F.E (fun _ _ => M.fail) f.eval o s).thn k := by
  unfold kSlow
  rw [Fr.feval_eq]
  exact kliftV_eq _ s k
def kop (F : FT) (kc : KCall Ω) (f : Fr) (o : Oper) (s : St) (k : Value → St → R Ω) : R Ω :=
  Op.rec (motive := fun _ => FT → KCall Ω → Fr → Oper → St → (Value → St → R Ω) → R Ω)
    (fun x _ _ f _ s k => f.evalK x fun v => k v s)
    (fun x _ _ f _ s k => f.evalK x fun v => k v s)
    (fun c a b _ _ f _ s k => kPick f c a b s k)
    (fun t F _ _ _ s k => kAlloc F t s k)
    (fun _ x _ _ f _ s k => f.evalK x fun v => kBox v s k)
    (fun t parts F _ f _ s k => f.evalP parts.toList fun ps => kBuild F t ps s k)
    (fun t len parts F _ f _ s k => f.evalP parts.toList fun ps => kBuildSlice F t len ps s k)
    (fun _ _ _ _ F _ f o s k => kSlow F f o s k)
    (fun t a F _ f _ s k => f.evalK a fun v => kload F t v s k)
    (fun t a x F _ f _ s k => f.evalK a fun v => f.evalK x fun u => kstore F t v u s k)
    (fun _ F _ f o s k => kSlow F f o s k)
    (fun _ F _ f o s k => kSlow F f o s k)
    (fun x _ _ f _ s k => f.evalK x fun v => kNil v s k)
    (fun op t x y _ F _ f o s k => f.evalK x fun v => f.evalK y fun u => kBin F f o op t v u s k)
    (fun _ _ _ F _ f o s k => kSlow F f o s k)
    (fun src dst x F _ f _ s k => f.evalK x fun v => kConvert F src dst v s k)
    (fun _ _ F _ f o s k => kSlow F f o s k)
    (fun _ _ F _ f o s k => kSlow F f o s k)
    (fun _ _ _ F _ f o s k => kSlow F f o s k)
    (fun _ _ F _ f o s k => kSlow F f o s k)
    (fun _ _ F _ f o s k => kSlow F f o s k)
    (fun t l c F _ f _ s k => f.evalK l fun v => f.evalK c fun u => kMakeSlice F t v u s k)
    (fun t x lo hi mx F _ f _ s k => f.evalK x fun v => f.evalO lo fun lo => f.evalO hi fun hi => f.evalO mx fun mx => kSlice F t v lo hi mx s k)
    (fun t x n F _ f _ s k => f.evalK x fun v => kFieldAddr F t v n s k)
    (fun t x n F _ f _ s k => f.evalK x fun v => kField F t v n s k)
    (fun t x ix F _ f _ s k => f.evalK x fun v => f.evalK ix fun u => kIndexAddr F t v u s k)
    (fun t x ix F _ f o s k => f.evalK x fun v => f.evalK ix fun u => kIndex F f o t v u s k)
    (fun _ _ _ _ F _ f o s k => kSlow F f o s k)
    (fun _ _ _ _ F _ f o s k => kSlow F f o s k)
    (fun _ _ _ F _ f o s k => kSlow F f o s k)
    (fun _ _ _ _ F _ f o s k => kSlow F f o s k)
    (fun _ _ F _ f o s k => kSlow F f o s k)
    (fun _ _ F _ f o s k => kSlow F f o s k)
    (fun _ F _ f o s k => kSlow F f o s k)
    (fun _ _ _ _ F _ f o s k => kSlow F f o s k)
    (fun x n _ _ f _ s k => f.evalK x fun v => kExtract v n s k)
    (fun c F kc f o s k => kCall F kc f o c s k)
    (fun _ F _ f o s k => kSlow F f o s k)
    (fun _ F _ f o s k => kSlow F f o s k)
    (fun _ F _ f o s k => kSlow F f o s k)
    (fun _ _ F _ f o s k => kSlow F f o s k)
    (fun _ _ _ F _ f o s k => kSlow F f o s k)
    (fun _ _ F _ f o s k => kSlow F f o s k)
    o.op F kc f o s k
theorem kop_eq {F : FT} (h : F.Fits) {kc : KCall Ω} {call : Cal → List Value → M Value} (hc : KFits kc call) (f : Fr) (o : Oper) (s : St) (k : Value → St → R Ω) : kop F kc f o s k = (aop F.E call f.eval o s).thn k := by
  rw [← faop_eq]
  obtain ⟨dst, op, ty, pos, after, guard⟩ := o
  cases op with
  | move x => exact f.evalK_eq x fun v => k v s
  | assign x => exact f.evalK_eq x fun v => k v s
  | pick c a b => exact kPick_eq f c a b s k
  | alloc t => exact kAlloc_eq h t s k
  | box t x =>
    show (f.evalK x fun v => kBox v s k) = _
    rw [f.evalK_eq]
    exact kBox_eq f.eval x s k
  | build t parts =>
    show (f.evalP parts.toList fun ps => kBuild F t ps s k) = _
    rw [f.evalP_eq]
    exact kBuild_eq f.eval h t parts s k
  | buildSlice t len parts =>
    show (f.evalP parts.toList fun ps => kBuildSlice F t len ps s k) = _
    rw [f.evalP_eq]
    exact kBuildSlice_eq f.eval h t len parts s k
  | load t a =>
    show (f.evalK a fun v => kload F t v s k) = _
    rw [f.evalK_eq]
    exact kload_eq h t _ s k
  | store t a x =>
    show (f.evalK a fun v => f.evalK x fun u => kstore F t v u s k) = _
    rw [f.evalK_eq, f.evalK_eq]
    exact kstore_eq h t _ _ s k
  | nilCheck x =>
    show (f.evalK x fun v => kNil v s k) = _
    rw [f.evalK_eq]
    exact kNil_eq f.eval x s k
  | binOp op t x y u0 =>
    show (f.evalK x fun v => f.evalK y fun u => kBin F f ⟨dst, .binOp op t x y u0, ty, pos, after, guard⟩ op t v u s k) = _
    rw [f.evalK_eq, f.evalK_eq]
    exact kBin_eq h f _ op t x y s k
  | convert src dst0 x =>
    show (f.evalK x fun v => kConvert F src dst0 v s k) = _
    rw [f.evalK_eq]
    exact kConvert_eq h f.eval src dst0 x s k
  | makeSlice t l c =>
    show (f.evalK l fun v => f.evalK c fun u => kMakeSlice F t v u s k) = _
    rw [f.evalK_eq, f.evalK_eq]
    exact kMakeSlice_eq h f.eval t l c s k
  | slice t x lo hi mx =>
    show (f.evalK x fun v => f.evalO lo fun lo => f.evalO hi fun hi => f.evalO mx fun mx => kSlice F t v lo hi mx s k) = _
    rw [f.evalK_eq, f.evalO_eq, f.evalO_eq, f.evalO_eq]
    exact kSlice_eq h f.eval t x lo hi mx s k
  | fieldAddr t x n =>
    show (f.evalK x fun v => kFieldAddr F t v n s k) = _
    rw [f.evalK_eq]
    exact kFieldAddr_eq f.eval h t x n s k
  | field t x n =>
    show (f.evalK x fun v => kField F t v n s k) = _
    rw [f.evalK_eq]
    exact kField_eq f.eval h t x n s k
  | indexAddr t x ix =>
    show (f.evalK x fun v => f.evalK ix fun u => kIndexAddr F t v u s k) = _
    rw [f.evalK_eq, f.evalK_eq]
    exact kIndexAddr_eq h t _ _ s k
  | index t x ix =>
    show (f.evalK x fun v => f.evalK ix fun u => kIndex F f ⟨dst, .index t x ix, ty, pos, after, guard⟩ t v u s k) = _
    rw [f.evalK_eq, f.evalK_eq]
    exact kIndex_eq h f _ t x ix s k
  | extract x n =>
    show (f.evalK x fun v => kExtract v n s k) = _
    rw [f.evalK_eq]
    exact kExtract_eq f.eval x n s k
  | call c => exact kCall_eq h hc f _ c s k
  | makeFunc fn first captured => exact (kSlow_eq F f ⟨dst, .makeFunc fn first captured, ty, pos, after, guard⟩ s k).trans (by cases fn <;> rfl)
  | next it st => exact (kSlow_eq F f ⟨dst, .next it st, ty, pos, after, guard⟩ s k).trans (by cases st <;> rfl)
  | _ => exact (kSlow_eq F f _ s k).trans rfl

/-! ## Regions, by continuation -/
def kwantedS (ops : List Oper) (f : Fr) (p : Nat × Bool) : Bool := match fnth ops p.1 with
    | none => false
    | some oj => match oj.dst with
      | none => false
      | some d => fif (Nat.ble (Nat.succ d) f.n) (match f.fget d with
        | .bool b => fif p.2 b (fif b false true)
        | _ => false) false
def kwanted (ops : List Oper) (f : Fr) (o : Oper) : Bool := Option.rec (motive := fun _ => Bool) true (kwantedS ops f) o.guard
theorem kwanted_eq (ops : List Oper) (f : Fr) (o : Oper) : kwanted ops f o = wantedA ops f o := by
  unfold kwanted wantedA
  cases o.guard with
  | none => rfl
  | some p =>
    obtain ⟨j, want⟩ := p
    dsimp only
    unfold kwantedS
    rw [fif_eq, fnth_eq]
    dsimp only
    cases ops[j]? with
    | none => rfl
    | some oj =>
      dsimp only
      cases oj.dst with
      | none => rfl
      | some d =>
        dsimp only
        show cond (Nat.blt d f.n) _ _ = _
        rw [Fr.fget_eq]
        congr 1
        cases f.get d with
        | bool b => cases b <;> cases want <;> rfl
        | _ => rfl
def koper (F : FT) (kc : KCall Ω) (ops : List Oper) (f : Fr) (o : Oper) (s : St) (k : Value → St → R Ω) : R Ω :=
  fif (kwanted ops f o) (kop F kc f o s k) (k undef s)
theorem koper_eq {F : FT} (h : F.Fits) {kc : KCall Ω} {call : Cal → List Value → M Value} (hc : KFits kc call) (ops : List Oper) (f : Fr) (o : Oper) (s : St) (k : Value → St → R Ω) : koper F kc ops f o s k = (aoper F.E call ops f o s).thn k := by
  unfold koper aoper
  rw [fif_eq, kwanted_eq, kop_eq h hc, cond_thn]
  rfl
def kseq (F : FT) (kc : KCall Ω) (ops l : List Oper) : Fr → St → (Fr → St → R Ω) → R Ω :=
  List.rec (motive := fun _ => Fr → St → (Fr → St → R Ω) → R Ω) (fun f s k => k f s) (fun o _ ih f s k => koper F kc ops f o s fun v s => f.fput o.dst v fun f' => ih f' s k) l
theorem kseq_eq {F : FT} (h : F.Fits) {kc : KCall Ω} {call : Cal → List Value → M Value} (hc : KFits kc call) (ops : List Oper) : ∀ (l : List Oper) (f : Fr) (s : St) (k : Fr → St → R Ω), kseq F kc ops l f s k = (aseq F.E call ops l f s).thn k
  | [], f, s, k => rfl
  | o :: l, f, s, k => by
    show (koper F kc ops f o s fun v s => f.fput o.dst v fun f' => kseq F kc ops l f' s k) = _
    unfold aseq
    rw [koper_eq h hc, bind_thn]
    refine thn_congr _ fun v s => ?_
    rw [Fr.fput_eq, kseq_eq h hc ops l]
def kseqLog (F : FT) (kc : KCall Ω) (ops l : List Oper) : Fr → St → (Fr → List (List Nat × List Nat) → St → R Ω) → R Ω :=
  List.rec (motive := fun _ => Fr → St → (Fr → List (List Nat × List Nat) → St → R Ω) → R Ω) (fun f s k => k f [] s) (fun o _ ih f s k => klog (koper F kc ops f o) s fun v r w s => f.fput o.dst v fun f' => ih f' s fun f' ls s => k f' ((r, w) :: ls) s) l
theorem kseqLog_eq {F : FT} (h : F.Fits) {kc : KCall Ω} {call : Cal → List Value → M Value} (hc : KFits kc call) (ops : List Oper) : ∀ (l : List Oper) (f : Fr) (s : St) (k : Fr → List (List Nat × List Nat) → St → R Ω), kseqLog F kc ops l f s k = (aseqLog F.E call ops l f s).thn fun p s => k p.1 p.2 s
  | [], f, s, k => rfl
  | o :: l, f, s, k => by
    show (klog (koper F kc ops f o) s fun v r w s => f.fput o.dst v fun f' => kseqLog F kc ops l f' s fun f' ls s => k f' ((r, w) :: ls) s) = _
    unfold aseqLog
    rw [klog_eq (fun s k => koper_eq h hc ops f o s k), bind_thn]
    refine thn_congr _ fun p s => ?_
    obtain ⟨v, r, w⟩ := p
    dsimp only
    rw [Fr.fput_eq, kseqLog_eq h hc ops l, bind_thn]
    rfl
def fquiet (ls : List (List Nat × List Nat)) : Bool := List.rec (motive := fun _ => Bool) true (fun l _ ih => List.rec (motive := fun _ => Bool) ih (fun _ _ _ => false) l.2) ls
theorem fquiet_eq : ∀ (ls : List (List Nat × List Nat)), fquiet ls = quietLogs ls
  | [] => rfl
  | (r, w) :: ls => by
    show List.rec (motive := fun _ => Bool) (fquiet ls) (fun _ _ _ => false) w = _
    rw [fquiet_eq ls]
    unfold quietLogs
    rw [List.all_cons]
    cases w <;> rfl
def fmemb (x : Nat) (l : List Nat) : Bool := List.rec (motive := fun _ => Bool) false (fun y _ ih => fif (Nat.beq x y) true ih) l
theorem fmemb_eq (x : Nat) : ∀ (l : List Nat), fmemb x l = memb x l
  | [] => rfl
  | y :: l => by
    show fif (Nat.beq x y) true (fmemb x l) = _
    rw [fif_eq]
    rw [fmemb_eq x l]; rfl
def fmeet (a b : List Nat) : Bool := List.rec (motive := fun _ => Bool) false (fun x _ ih => fif (fmemb x b) true ih) a
theorem fmeet_eq (b : List Nat) : ∀ (a : List Nat), fmeet a b = meet a b
  | [] => rfl
  | x :: a => by
    show fif (fmemb x b) true (fmeet a b) = _
    rw [fif_eq]
    rw [fmemb_eq, fmeet_eq b a]; rfl
def fclash (a b : List Nat × List Nat) : Bool := fif (fmeet a.2 b.1) true (fif (fmeet a.2 b.2) true (fmeet b.2 a.1))
theorem fclash_eq (a b : List Nat × List Nat) : fclash a b = clash a b := by
  unfold fclash clash
  rw [fmeet_eq, fmeet_eq, fmeet_eq]
  cases meet a.2 b.1 <;> cases meet a.2 b.2 <;> rfl
/-- Does neither write? -/
def fnone (a b : List Nat × List Nat) : Bool := List.rec (motive := fun _ => Bool) (List.rec (motive := fun _ => Bool) true (fun _ _ _ => false) b.2) (fun _ _ _ => false) a.2
theorem meet_nil : ∀ (a : List Nat), meet a [] = false
  | [] => rfl
  | x :: a => by show cond (memb x []) true (meet a []) = false; rw [meet_nil a]; rfl
theorem fnone_clash {a b : List Nat × List Nat} (h : fnone a b = true) : clash a b = false := by
  obtain ⟨a1, a2⟩ := a
  obtain ⟨b1, b2⟩ := b
  cases a2 with
  | cons _ _ => cases h
  | nil => cases b2 with
    | cons _ _ => cases h
    | nil => rfl
def fclashAll (before : Nat) (l : List Nat × List Nat) (ms : List (List Nat × List Nat)) : Nat → Bool :=
  List.rec (motive := fun _ => Nat → Bool) (fun _ => true) (fun m _ ih i => fif (fnone l m) (ih (Nat.succ i)) (fif (Nat.testBit before i) (ih (Nat.succ i)) (fif (fclash l m) false (ih (Nat.succ i))))) ms
theorem fclashAll_eq (before : Nat) (l : List Nat × List Nat) : ∀ (ms : List (List Nat × List Nat)) (i : Nat), fclashAll before l ms i = clashAll before l i ms
  | [], i => rfl
  | m :: ms, i => by
    show fif (fnone l m) (fclashAll before l ms (i + 1)) (fif (Nat.testBit before i) (fclashAll before l ms (i + 1)) (fif (fclash l m) false (fclashAll before l ms (i + 1)))) = _
    rw [fif_eq, fclashAll_eq before l ms, fclash_eq]
    show _ = ((!(clash l m) || Nat.testBit before i) && clashAll before l (i + 1) ms)
    cases hn : fnone l m with
    | true =>
      rw [fnone_clash hn]
      rfl
    | false => cases Nat.testBit before i <;> cases clash l m <;> rfl
def forder (ls : List (List Nat × List Nat)) : List Nat → List (List Nat × List Nat) → Bool :=
  List.rec (motive := fun _ => List Nat → List (List Nat × List Nat) → Bool) (fun _ _ => true) (fun l _ ih bs e => List.rec (motive := fun _ => Bool) false (fun b bs _ => fif (fclashAll b l e (nat_lit 0)) (ih bs (fapp e [l])) false) bs) ls
theorem forder_eq : ∀ (ls : List (List Nat × List Nat)) (bs : List Nat) (e : List (List Nat × List Nat)), forder ls bs e = orderOk bs e ls
  | [], bs, e => by cases bs <;> rfl
  | l :: ls, [], e => rfl
  | l :: ls, b :: bs, e => by
    show fif (fclashAll b l e 0) (forder ls bs (fapp e [l])) false = _
    rw [fif_eq]
    rw [fclashAll_eq, forder_eq ls, fapp_eq]
    show _ = (clashAll b l 0 e && orderOk bs (e ++ [l]) ls)
    cases clashAll b l 0 e <;> rfl
/-- What lies ahead of each operation. -/
def fedges (acc : List Nat) (es : List Edge) : Nat → Nat := List.rec (motive := fun _ => Nat → Nat) (fun s => s) (fun e _ ih s => fif (Region.binds .any e) (fnK (Nat.lor (Nat.lor s (Nat.pow (nat_lit 2) e.on)) (Option.rec (motive := fun _ => Nat) (nat_lit 0) (fun b => b) (fnth acc e.on))) ih) (ih s)) es
theorem fedges_eq (acc : Array Nat) : ∀ (es : List Edge) (s : Nat), fedges acc.toList es s = es.foldl (fun s e => if Region.binds .any e then s ||| 2 ^ e.on ||| acc.getD e.on 0 else s) s
  | [], s => rfl
  | e :: es, s => by
    show fif (Region.binds .any e) (fnK (Nat.lor (Nat.lor s (Nat.pow (nat_lit 2) e.on)) (Option.rec (motive := fun _ => Nat) (nat_lit 0) (fun b => b) (fnth acc.toList e.on))) (fedges acc.toList es)) (fedges acc.toList es s) = _
    rw [fif_eq, fnK_eq, fnth_eq, fedges_eq acc es, fedges_eq acc es, List.foldl_cons]
    have hg : (Option.rec (motive := fun _ => Nat) (nat_lit 0) (fun b => b) acc.toList[e.on]? : Nat) = acc.getD e.on 0 := by
      rw [Array.getElem?_toList, Array.getD_eq_getD_getElem?]
      cases acc[e.on]? <;> rfl
    rw [hg]
    cases Region.binds .any e <;> rfl
def fbefore (l : List Oper) : List Nat → List Nat := List.rec (motive := fun _ => List Nat → List Nat) (fun acc => acc) (fun o _ ih acc => fnK (fedges acc o.after.toList (nat_lit 0)) fun s => flKb (fapp acc [s]) ih) l
theorem fbefore_go : ∀ (l : List Oper) (acc : Array Nat), fbefore l acc.toList = (l.foldl (fun acc o => acc.push (o.after.foldl (fun s e => if Region.binds .any e then s ||| 2 ^ e.on ||| acc.getD e.on 0 else s) 0)) acc).toList
  | [], acc => rfl
  | o :: l, acc => by
    show (fnK (fedges acc.toList o.after.toList (nat_lit 0)) fun s => flKb (fapp acc.toList [s]) (fbefore l)) = _
    rw [fnK_eq, flKb_eq, fapp_eq, fedges_eq, List.foldl_cons, ← fbefore_go l, Array.toList_push, Array.foldl_toList]
theorem fbefore_eq (ops : Array Oper) : fbefore ops.toList [] = (Region.before ops).toList := by
  have := fbefore_go ops.toList #[]
  rw [Array.foldl_toList] at this
  exact this
def kregion (F : FT) (kc : KCall Ω) (ops : Array Oper) (draw : Bool) (f : Fr) (s : St) (k : Fr → St → R Ω) : R Ω :=
  fif draw (kseqLog F kc ops.toList ops.toList f s fun f' ls s =>
    fif (fquiet ls) (k f' s) (fif (forder ls (fbefore ops.toList []) []) (k f' s) (.err [])))
  (kseq F kc ops.toList ops.toList f s k)
theorem kregion_eq {F : FT} (h : F.Fits) {kc : KCall Ω} {call : Cal → List Value → M Value} (hc : KFits kc call) (ops : Array Oper) (draw : Bool) (f : Fr) (s : St) (k : Fr → St → R Ω) : kregion F kc ops draw f s k = (aregion F.E call ops draw f s).thn k := by
  unfold kregion aregion
  rw [fif_eq]
  rw [kseq_eq h hc, kseqLog_eq h hc, cond_thn, bind_thn]
  congr 1
  refine thn_congr _ fun p s => ?_
  rw [fquiet_eq, forder_eq, fbefore_eq, cond_thn]
  cases quietLogs p.2 <;> rfl

/-! ## Code, by continuation -/
def KBody (Ω : Type) : Type := Fr → St → (Ex → Fr → St → R Ω) → R Ω
def kloop (body : KBody Ω) (n : Nat) : KBody Ω :=
  Nat.rec (motive := fun _ => Fr → St → (Ex → Fr → St → R Ω) → R Ω) (fun _ _ _ => .err []) (fun _ ih f s k => body f s fun x f s => Ex.rec (motive := fun _ => R Ω) (ih f s k) (fun i => k (.exit i) f s) (k .ret f s) x) n
theorem kloop_eq {body : KBody Ω} {b : Fr → M (Ex × Fr)} (hb : ∀ f s k, body f s k = (b f s).thn fun p s => k p.1 p.2 s) : ∀ (n : Nat) (f : Fr) (s : St) (k : Ex → Fr → St → R Ω), kloop body n f s k = (aloop b n f s).thn fun p s => k p.1 p.2 s
  | 0, f, s, k => rfl
  | n + 1, f, s, k => by
    show (body f s fun x f s => Ex.rec (motive := fun _ => R Ω) (kloop body n f s k) (fun i => k (.exit i) f s) (k .ret f s) x) = _
    unfold aloop
    rw [hb, bind_thn]
    refine thn_congr _ fun p s => ?_
    obtain ⟨x, f'⟩ := p
    cases x with
    | normal => exact kloop_eq hb n f' s k
    | _ => rfl
def kbool (v : Value) (a b : R Ω) : R Ω := onBool v a b (.err [])
def kshut (L : Nat) (s : St) (k : Ex → St → R Ω) : R Ω := klift (shutLoop L) s k
def krange (F : FT) (kc : KCall Ω) (rd : Bool) (g : Operand) (ps : Array Tmp) (assign body : Code) (f : Fr) (s : St) (k : Ex → Fr → St → R Ω) : R Ω :=
  fif rd (.err []) (match f.feval g with
    | .func fn first captured => match fn with
      | .func g => Option.rec (motive := fun _ => R Ω) (.err []) (fun fn => Option.rec (motive := fun _ => R Ω) (.err []) (fun _ =>
        knew .df s fun D s => knew (.lp .ready none ⟨f, ps.toList, assign, body⟩) s fun L s =>
          kc (.fn g) (fapp first.toList (.func (.yield L) #[] #[] :: captured.toList)) s fun _ s => kshut L s fun x s => k x ⟨f.tm, f.n, D :: f.marks⟩ s) fn.body) (F.fn.fget g)
      | _ => .err []
    | _ => .err [])
theorem krange_eq {F : FT} (h : F.Fits) {kc : KCall Ω} {call : Cal → List Value → M Value} (hc : KFits kc call) (rd : Bool) (N : Nat) (g : Operand) (ps : Array Tmp) (assign body : Code) (f : Fr) (s : St) (k : Ex → Fr → St → R Ω) :
    krange F kc rd g ps assign body f s k = (acode F.E call rd N (.rangeFunc g ps assign body) f s).thn fun p s => k p.1 p.2 s := by
  unfold krange acode
  rw [fif_eq]
  rw [cond_thn, Fr.feval_eq]
  congr 1
  cases f.eval g with
  | func fn first captured => cases fn with
    | func g =>
      dsimp only
      rw [T.fget_eq, h.fn]
      cases F.E.funcs.get g with
      | none => rfl
      | some fn =>
        dsimp only
        cases fn.body with
        | none => rfl
        | some c =>
          dsimp only
          rw [knew_eq, bind_thn]
          refine thn_congr _ fun D s => ?_
          rw [knew_eq, bind_thn]
          refine thn_congr _ fun L s => ?_
          rw [hc, bind_thn, fapp_eq, List.append_assoc]
          refine thn_congr _ fun v s => ?_
          unfold kshut
          rw [klift_eq, bind_thn]
          rfl
    | _ => rfl
  | _ => rfl
def kcode (F : FT) (kc : KCall Ω) (rd : Bool) (N : Nat) (c : Code) : KBody Ω :=
  Code.rec (motive := fun _ => Fr → St → (Ex → Fr → St → R Ω) → R Ω)
    (fun f s k => k .normal f s)
    (fun _ ops draw f s k => kregion F kc ops draw f s (k .normal))
    (fun _ _ iha ihb f s k => iha f s fun x f s => Ex.rec (motive := fun _ => R Ω) (ihb f s k) (fun i => k (.exit i) f s) (k .ret f s) x)
    (fun c _ _ iht ihe f s k => kbool (f.feval c) (iht f s k) (ihe f s k))
    (fun id _ ih f s k => ih f s fun x f s => Ex.rec (motive := fun _ => R Ω) (k .normal f s) (fun i => fif (Nat.beq i id) (k .normal f s) (k (.exit i) f s)) (k .ret f s) x)
    (fun _ ih f s k => kloop ih N f s k)
    (fun g ps assign body _ _ f s k => krange F kc rd g ps assign body f s k)
    (fun id f s k => k (.exit id) f s)
    (fun _ ih f s k => fif rd (.err []) (ih f s k))
    (fun _ f s k => k .normal f s)
    (fun _ _ _ _ => .err [])
    (fun f s k => k .ret f s)
    (fun _ _ _ _ => .err []) c
theorem kcode_eq {F : FT} (h : F.Fits) {kc : KCall Ω} {call : Cal → List Value → M Value} (hc : KFits kc call) (rd : Bool) (N : Nat) (c : Code) : ∀ (f : Fr) (s : St) (k : Ex → Fr → St → R Ω), kcode F kc rd N c f s k = (acode F.E call rd N c f s).thn fun p s => k p.1 p.2 s := by
  induction c with
  | region id ops draw =>
    intro f s k
    show kregion F kc ops draw f s (k .normal) = _
    unfold acode
    rw [kregion_eq h hc, bind_thn]
    rfl
  | seq a b iha ihb =>
    intro f s k
    show (kcode F kc rd N a f s fun x f s => Ex.rec (motive := fun _ => R Ω) (kcode F kc rd N b f s k) (fun i => k (.exit i) f s) (k .ret f s) x) = _
    unfold acode
    rw [iha, bind_thn]
    refine thn_congr _ fun p s => ?_
    obtain ⟨x, f'⟩ := p
    cases x with
    | normal => exact ihb f' s k
    | _ => rfl
  | cond c t e iht ihe =>
    intro f s k
    show kbool (f.feval c) (kcode F kc rd N t f s k) (kcode F kc rd N e f s k) = _
    unfold acode
    rw [iht, ihe, Fr.feval_eq]
    unfold kbool
    cases f.eval c with
    | bool b => cases b <;> rfl
    | _ => rfl
  | block id b ih =>
    intro f s k
    show (kcode F kc rd N b f s fun x f s => Ex.rec (motive := fun _ => R Ω) (k .normal f s) (fun i => fif (Nat.beq i id) (k .normal f s) (k (.exit i) f s)) (k .ret f s) x) = _
    rw [fif_eq]
    unfold acode
    rw [ih, bind_thn]
    refine thn_congr _ fun p s => ?_
    obtain ⟨x, f'⟩ := p
    cases x with
    | exit i =>
      dsimp only
      rw [cond_thn]
      rfl
    | _ => rfl
  | loop b ih =>
    intro f s k
    show kloop (kcode F kc rd N b) N f s k = _
    unfold acode
    exact kloop_eq ih N f s k
  | scope b ih =>
    intro f s k
    show fif rd (.err []) (kcode F kc rd N b f s k) = _
    rw [fif_eq]
    unfold acode
    rw [ih, cond_thn]
    rfl
  | rangeFunc g ps assign body _ _ =>
    intro f s k
    exact krange_eq h hc rd N g ps assign body f s k
  | _ =>
    intro f s k
    rfl

/-! ### What is asked of code -/
def fopsOk (G : Nat) (ops : List Oper) : Bool := fall (fun o => fall (opdOk G) o.op.operands.toList) ops
theorem fopsOk_eq (G : Nat) (ops : Array Oper) : fopsOk G ops.toList = opsOk G ops := by
  unfold fopsOk opsOk
  rw [fall_eq]
  congr 1
  funext o
  exact fall_eq _ _
def fcodeOk (G : Nat) (c : Code) : Bool := Code.rec (motive := fun _ => Bool) true (fun _ ops draw => fif (fopsOk G ops.toList) (fif draw (drawOk ops) true) false) (fun _ _ a b => fif a b false)
  (fun c _ _ a b => fif (opdOk G c) (fif a b false) false) (fun _ _ a => a) (fun _ a => a) (fun f _ _ _ _ _ => opdOk G f) (fun _ => true) (fun _ a => a) (fun _ => true) (fun _ => true) true (fun _ => true) c
theorem fcodeOk_eq (G : Nat) (c : Code) : fcodeOk G c = codeOk G c := by
  induction c with
  | region id ops draw =>
    show fif (fopsOk G ops.toList) (fif draw (drawOk ops) true) false = _
    rw [fif_eq]
    rw [fopsOk_eq]
    unfold codeOk
    cases opsOk G ops <;> cases draw <;> rfl
  | seq a b iha ihb =>
    show fif (fcodeOk G a) (fcodeOk G b) false = _
    rw [fif_eq, iha, ihb]
    show _ = (codeOk G a && codeOk G b)
    cases codeOk G a <;> rfl
  | cond c t e iht ihe =>
    show fif (opdOk G c) (fif (fcodeOk G t) (fcodeOk G e) false) false = _
    rw [fif_eq]
    rw [iht, ihe]
    show _ = (opdOk G c && (codeOk G t && codeOk G e))
    cases opdOk G c <;> cases codeOk G t <;> rfl
  | block id b ih => exact ih
  | loop b ih => exact ih
  | scope b ih => exact ih
  | _ => rfl

def kround (F : FT) (kc : KCall Ω) (N : Nat) (id : Nat) (args : List Value) (s : St) (k : Value → St → R Ω) : R Ω := kget id s fun b s => match b with
  | .lp _ _ d =>
    fif (Nat.beq (flen args) (flen d.params)) (fif (fcodeOk F.E.glob d.assign) (fif (fcodeOk F.E.glob d.body)
      (kcode F kc true N d.assign (putParams { d.fr with marks := [] } d.params args) s fun x f s => Ex.rec (motive := fun _ => R Ω)
        (klift (beginRound id) s fun _ s => kcode F kc true N d.body f s fun x _ s => kliftV (endRound id x) s k) (fun _ => .err []) (.err []) x) (.err [])) (.err [])) (.err [])
  | _ => .err []
theorem kround_eq {F : FT} (h : F.Fits) {kc : KCall Ω} {call : Cal → List Value → M Value} (hc : KFits kc call) (N : Nat) (id : Nat) (args : List Value) (s : St) (k : Value → St → R Ω) : kround F kc N id args s k = (around F.E call N id args s).thn k := by
  unfold kround around
  rw [kget_eq, bind_thn]
  refine thn_congr _ fun b s => ?_
  cases b with
  | lp st pend d =>
    dsimp only
    rw [flen_eq, flen_eq, fcodeOk_eq, fcodeOk_eq, cond_thn, bind_thn, kcode_eq h hc]
    cases Nat.beq args.length d.params.length with
    | false => rfl
    | true => cases codeOk F.E.glob d.assign with
      | false => rfl
      | true => cases codeOk F.E.glob d.body with
        | false => rfl
        | true =>
          show R.thn _ _ = R.thn _ _
          refine thn_congr _ fun p s => ?_
          obtain ⟨x, f'⟩ := p
          cases x with
          | normal =>
            dsimp only
            rw [klift_eq, bind_thn]
            refine thn_congr _ fun u s => ?_
            rw [kcode_eq h hc, bind_thn]
            refine thn_congr _ fun p s => ?_
            exact kliftV_eq _ s k
          | _ => rfl
  | _ => rfl

def kargs {β : Type} (vs : List Value) : T Value → Nat → (T Value → β) → β :=
  List.rec (motive := fun _ => T Value → Nat → (T Value → β) → β) (fun t _ k => k t) (fun v _ ih t i k => vwK v fun v => T.fset v (nat_lit 64) t i fun t' => ih t' (Nat.succ i) k) vs
theorem kargs_eq {β : Type} : ∀ (vs : List Value) (t : T Value) (i : Nat) (k : T Value → β), kargs vs t i k = k (setArgs t i vs)
  | [], t, i, k => rfl
  | v :: vs, t, i, k => by
    show (vwK v fun v => T.fset v (nat_lit 64) t i fun t' => kargs vs t' (Nat.succ i) k) = _
    rw [vwK_eq, T.fset_eq, kargs_eq vs]
    rfl
def kresult (F : FT) (f : Fr) (r : ResultVar) (s : St) (k : Value → St → R Ω) : R Ω := ResultVar.rec (motive := fun _ => R Ω) (fun t => vwK (f.fget t) fun v => k v s) (fun a t => kload F t (f.fget a) s k) r
theorem kresult_eq {F : FT} (h : F.Fits) (f : Fr) (r : ResultVar) (s : St) (k : Value → St → R Ω) : kresult F f r s k = (aresult F.E f r s).thn k := by
  cases r with
  | tmp t =>
    show (vwK (f.fget t) fun v => k v s) = _
    rw [vwK_eq, Fr.fget_eq]; rfl
  | cell a t =>
    show kload F t (f.fget a) s k = _
    rw [Fr.fget_eq]
    exact kload_eq h t _ s k
def kresults (F : FT) (f : Fr) (rs : List ResultVar) : St → (List Value → St → R Ω) → R Ω :=
  List.rec (motive := fun _ => St → (List Value → St → R Ω) → R Ω) (fun s k => k [] s) (fun r _ ih s k => kresult F f r s fun v s => ih s fun vs s => k (v :: vs) s) rs
theorem kresults_eq {F : FT} (h : F.Fits) (f : Fr) : ∀ (rs : List ResultVar) (s : St) (k : List Value → St → R Ω), kresults F f rs s k = (aresults F.E f rs s).thn k
  | [], s, k => rfl
  | r :: rs, s, k => by
    show (kresult F f r s fun v s => kresults F f rs s fun vs s => k (v :: vs) s) = _
    unfold aresults
    rw [kresult_eq h, bind_thn]
    refine thn_congr _ fun v s => ?_
    rw [kresults_eq h f rs, bind_thn]
    rfl
def kdone (F : FT) (f : Fr) (fn : Func) (s : St) (k : Value → St → R Ω) : R Ω := List.rec (motive := fun _ => R Ω) (kresults F f fn.results.toList s fun vs s => klift (packA vs) s k) (fun _ _ _ => klift (takeAll f.marks) s fun _ s => kresults F f fn.results.toList s fun vs s => klift (packA vs) s k) f.marks
theorem kdone_eq {F : FT} (h : F.Fits) (f : Fr) (fn : Func) (s : St) (k : Value → St → R Ω) : kdone F f fn s k = (((takeAll f.marks).bind fun _ => (aresults F.E f fn.results.toList).bind packA) s).thn k := by
  have hr : ∀ s, (kresults F f fn.results.toList s fun vs s => klift (packA vs) s k) = (((aresults F.E f fn.results.toList).bind packA) s).thn k := fun s => by
    rw [kresults_eq h, bind_thn]
    exact thn_congr _ fun vs s => klift_eq _ s k
  unfold kdone
  cases hm : f.marks with
  | nil =>
    dsimp only
    rw [hr]
    rfl
  | cons a as =>
    dsimp only
    rw [klift_eq, bind_thn]
    exact thn_congr _ fun _ s => hr s
def kfn (F : FT) (N : Nat) (kc : KCall Ω) (args : List Value) (fn : Func) (s : St) (k : Value → St → R Ω) : R Ω := Option.rec (motive := fun _ => R Ω) (.err []) (fun c =>
  fnK (Nat.add (flen args) (Nat.sub fn.ntmps (flen args))) fun m => fif (Nat.ble (Nat.succ m) (nat_lit 1152921504606846976)) (kargs args .nil (nat_lit 0) fun t =>
    kcode F kc false N c ⟨t, m, []⟩ s fun x f s => Ex.rec (motive := fun _ => R Ω) (kdone F f fn s k) (fun _ => .err []) (kdone F f fn s k) x) (.err [])) fn.body
def kcall (F : FT) (N : Nat) (n : Nat) : KCall Ω :=
  Nat.rec (motive := fun _ => KCall Ω) (fun _ _ _ _ => .err []) (fun _ ih c args s k => Cal.rec (motive := fun _ => R Ω)
    (fun g => Option.rec (motive := fun _ => R Ω) (Option.rec (motive := fun _ => R Ω) (.err []) (fun fn => kfn F N ih args fn s k) (F.fn.fget g)) (fun h => kliftV (h args) s k) (F.E.orc g))
    (fun id => kround F ih N id args s k) c) n
theorem kcall_eq {F : FT} (h : F.Fits) (N : Nat) : ∀ (n : Nat), KFits (kcall (Ω := Ω) F N n) (acall F.E N n)
  | 0 => fun _ _ _ _ => rfl
  | n + 1 => by
    intro c args s k
    cases c with
    | yl id => exact kround_eq h (kcall_eq h N n) N id args s k
    | fn g =>
      show Option.rec (motive := fun _ => R Ω) (Option.rec (motive := fun _ => R Ω) (.err []) (fun fn => kfn F N (kcall F N n) args fn s k) (F.fn.fget g)) (fun h => kliftV (h args) s k) (F.E.orc g) = _
      unfold acall
      rw [T.fget_eq, h.fn]
      show _ = R.thn ((match F.E.orc g with
        | some h => h args
        | none => _ : M Value) s) k
      cases F.E.orc g with
      | some o => exact kliftV_eq _ s k
      | none =>
        dsimp only
        cases F.E.funcs.get g with
        | none => rfl
        | some fn =>
          dsimp only
          unfold kfn
          cases fn.body with
          | none => rfl
          | some c =>
            dsimp only
            rw [fnK_eq, flen_eq, cond_thn, kargs_eq, kcode_eq h (kcall_eq h N n), bind_thn]
            show fif (Nat.blt (args.length + (fn.ntmps - args.length)) bound) _ _ = _
            rw [fif_eq]
            congr 1
            refine thn_congr _ fun p s => ?_
            obtain ⟨x, f'⟩ := p
            cases x with
            | exit i => rfl
            | normal => exact kdone_eq h f' fn s k
            | ret => exact kdone_eq h f' fn s k

/-! ## The run -/
/-- A trie turned leaf by leaf. -/
def T.via {α β : Type} (g : α → Option β) (t : T α) : T β := T.rec (motive := fun _ => T β) .nil (fun _ v _ l r => .node l (v.bind g) r) t
theorem T.via_get {α β : Type} (g : α → Option β) : ∀ (t : T α) (n : Nat), (t.via g).get n = (t.get n).bind g
  | .nil, n => rfl
  | .node l v r, 0 => rfl
  | .node l v r, n + 1 => by
    show (T.node (l.via g) (v.bind g) (r.via g)).get (n + 1) = _
    rw [T.get_succ, T.get_succ]
    cases Nat.beq (n % 2) 0
    · exact T.via_get g r _
    · exact T.via_get g l _
def tiR (is : T TypeInfo) (i : TypeInfo) : Option TI := match underOf is i.desc, i.zero with
    | some d, some z => some ⟨d, i.size, i.bytes, vcells z, aggDesc d⟩
    | _, _ => none
theorem tiR_eq (is : T TypeInfo) (t : TypeId) : (is.get t).bind (tiR is) = tiOf is t := by
  unfold tiOf tiR
  cases is.get t <;> rfl
def tiK {β : Type} (i : TI) (k : TI → β) : β := TI.rec (motive := fun _ => β) (fun under size bytes zero isAgg => fnK size fun size => fnK bytes fun bytes => flK zero fun zero => cond isAgg (k ⟨under, size, bytes, zero, true⟩) (k ⟨under, size, bytes, zero, false⟩)) i
theorem tiK_eq {β : Type} (i : TI) (k : TI → β) : tiK i k = k i := by
  cases i with
  | mk u a b z g =>
    unfold tiK
    dsimp only
    rw [fnK_eq, fnK_eq, flK_eq]
    cases g <;> rfl
/-- .. and handed on as a normal form. -/
def T.viaK {α β γ : Type} (g : α → Option β) (lk : β → (β → γ) → γ) (t : T α) : (T β → γ) → γ :=
  T.rec (motive := fun _ => (T β → γ) → γ) (fun k => k .nil) (fun _ v _ l r k => l fun l => r fun r => Option.rec (motive := fun _ => γ) (k (.node l none r)) (fun a => Option.rec (motive := fun _ => γ) (k (.node l none r)) (fun b => lk b fun b => k (.node l (some b) r)) (g a)) v) t
theorem T.viaK_eq {α β γ : Type} (g : α → Option β) (lk : β → (β → γ) → γ) (hl : ∀ b k, lk b k = k b) : ∀ (t : T α) (k : T β → γ), t.viaK g lk k = k (t.via g)
  | .nil, k => rfl
  | .node l v r, k => by
    show (l.viaK g lk fun l => r.viaK g lk fun r => Option.rec (motive := fun _ => γ) (k (.node l none r)) (fun a => Option.rec (motive := fun _ => γ) (k (.node l none r)) (fun b => lk b fun b => k (.node l (some b) r)) (g a)) v) = _
    rw [T.viaK_eq g lk hl l, T.viaK_eq g lk hl r]
    show _ = k (.node (l.via g) (v.bind g) (r.via g))
    cases v with
    | none => rfl
    | some a =>
      show Option.rec (motive := fun _ => γ) _ _ (g a) = k (.node (l.via g) (g a) (r.via g))
      cases g a with
      | none => rfl
      | some b => exact hl _ _
theorem T.via_some {α : Type} : ∀ (t : T α), t.via some = t
  | .nil => rfl
  | .node l v r => by
    show T.node (l.via some) (v.bind some) (r.via some) = _
    rw [T.via_some l, T.via_some r]
    cases v <;> rfl
/-- A call, the tables made ready ahead. -/
def krun (E : Env) (N n : Nat) (g : FuncId) (args : List Value) (s : St) : R Value :=
  E.types.viaK some (fun f k => k f) fun ty => E.funcs.viaK some (fun f k => k f) fun fn => ty.viaK (tiR ty) tiK fun ti =>
    kcall ⟨⟨E.P, ty, fn, E.orc, E.glob⟩, ti, fn⟩ N n (.fn g) args s fun v s => .ok v s
theorem krun_eq (E : Env) (N n : Nat) (g : FuncId) (args : List Value) (s : St) : krun E N n g args s = acall E N n (.fn g) args s := by
  unfold krun
  rw [T.viaK_eq _ _ (fun _ _ => rfl), T.viaK_eq _ _ (fun _ _ => rfl), T.viaK_eq _ _ tiK_eq]
  rw [T.via_some, T.via_some]
  have hF : FT.Fits ⟨E, E.types.via (tiR E.types), E.funcs⟩ := ⟨fun t => by rw [T.via_get, tiR_eq], fun g => rfl⟩
  show kcall ⟨E, E.types.via (tiR E.types), E.funcs⟩ N n (.fn g) args s (fun v s => .ok v s) = _
  rw [kcall_eq hF N n]
  generalize acall E N n (.fn g) args s = r
  cases r <;> rfl
end
end Go.Abs

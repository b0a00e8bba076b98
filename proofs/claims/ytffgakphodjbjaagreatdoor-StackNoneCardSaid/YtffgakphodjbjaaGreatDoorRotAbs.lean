/- The evaluator: a deterministic reading of the model's programs, with its logs. -/
import Derived.Calls
import Derived.KernelRfl
import Derived.Orders
set_option linter.unusedVariables false
namespace Go.Abs

/-! ## Tries keyed by numbers -/
inductive T (α : Type) where
  | nil : T α
  | node (l : T α) (v : Option α) (r : T α) : T α

noncomputable section
/-- Written by the recursor: the kernel is quicker at it. -/
def T.get {α : Type} (t : T α) : Nat → Option α :=
  T.rec (motive := fun _ => Nat → Option α) (fun _ => none)
    (fun _ v _ ihl ihr n => Nat.rec (motive := fun _ => Option α) v (fun m _ => cond (Nat.beq (m % 2) 0) (ihl (m / 2)) (ihr (m / 2))) n) t
theorem T.get_zero {α : Type} (l : T α) (v : Option α) (r : T α) : (T.node l v r).get 0 = v := rfl
theorem T.get_succ {α : Type} (l : T α) (v : Option α) (r : T α) (n : Nat) : (T.node l v r).get (n + 1) = cond (Nat.beq (n % 2) 0) (l.get (n / 2)) (r.get (n / 2)) := rfl

def T.set {α : Type} (v : α) : Nat → T α → Nat → T α
  | 0, t, _ => t
  | _ + 1, .nil, 0 => .node .nil (some v) .nil
  | f + 1, .nil, n + 1 => bif Nat.beq (n % 2) 0 then .node (T.set v f .nil (n / 2)) none .nil else .node .nil none (T.set v f .nil (n / 2))
  | _ + 1, .node l _ r, 0 => .node l (some v) r
  | f + 1, .node l o r, n + 1 => bif Nat.beq (n % 2) 0 then .node (T.set v f l (n / 2)) o r else .node l o (T.set v f r (n / 2))

/-- .. handed on as a normal form. -/
def T.setK {α β : Type} (v : α) (f : Nat) : T α → Nat → (T α → β) → β :=
  Nat.rec (motive := fun _ => T α → Nat → (T α → β) → β) (fun t _ k => k t)
    (fun _ ih t n k => T.rec (motive := fun _ => β)
      (Nat.rec (motive := fun _ => β) (k (.node .nil (some v) .nil)) (fun m _ => cond (Nat.beq (m % 2) 0) (ih .nil (m / 2) fun t => k (.node t none .nil)) (ih .nil (m / 2) fun t => k (.node .nil none t))) n)
      (fun l o r _ _ => Nat.rec (motive := fun _ => β) (k (.node l (some v) r)) (fun m _ => cond (Nat.beq (m % 2) 0) (ih l (m / 2) fun t => k (.node t o r)) (ih r (m / 2) fun t => k (.node l o t))) n) t) f
theorem T.setK_eq {α β : Type} (v : α) : ∀ (f : Nat) (t : T α) (n : Nat) (k : T α → β), T.setK v f t n k = k (T.set v f t n)
  | 0, t, n, k => by cases t <;> rfl
  | f + 1, .nil, 0, k => rfl
  | f + 1, .nil, n + 1, k => by
    show cond (Nat.beq (n % 2) 0) (T.setK v f .nil (n / 2) fun t => k (.node t none .nil)) (T.setK v f .nil (n / 2) fun t => k (.node .nil none t)) = _
    unfold T.set
    cases Nat.beq (n % 2) 0
    · simp only [cond_false]; rw [T.setK_eq v f .nil (n / 2)]
    · simp only [cond_true]; rw [T.setK_eq v f .nil (n / 2)]
  | f + 1, .node l o r, 0, k => rfl
  | f + 1, .node l o r, n + 1, k => by
    show cond (Nat.beq (n % 2) 0) (T.setK v f l (n / 2) fun t => k (.node t o r)) (T.setK v f r (n / 2) fun t => k (.node l o t)) = _
    unfold T.set
    cases Nat.beq (n % 2) 0
    · simp only [cond_false]; rw [T.setK_eq v f r (n / 2)]
    · simp only [cond_true]; rw [T.setK_eq v f l (n / 2)]
def natK {β : Type} (n : Nat) (k : Nat → β) : β := match n with
  | 0 => k 0
  | m + 1 => k (m + 1)
theorem natK_eq {β : Type} (n : Nat) (k : Nat → β) : natK n k = k n := by cases n <;> rfl

/-! ## State -/
structure Fr where
  tm : T Value
  n : Nat
  marks : List Nat
/-- A loop over a function. -/
structure LoopD where
  fr : Fr
  params : List Tmp
  assign : Code
  body : Code
/-- How code is left. -/
inductive Ex where
  | normal
  | exit (id : Nat)
  | ret

inductive Blk where
  | cells (c : List Value) (es : Nat) (own old : Bool) (par : List Nat)
  | dead
  | iter (s : ByteArray) (pos : Nat)
  | lp (st : LoopState) (pend : Option Ex) (d : LoopD)
  | df

/-- What is called. -/
inductive Cal where
  | fn (g : FuncId)
  | yl (id : Nat)

structure St where
  heap : T Blk
  next : Nat
  rl : List Nat
  wl : List Nat

inductive R (α : Type) where
  | ok (a : α) (s : St)
  | err (where_ : List Nat)

abbrev M (α : Type) : Type := St → R α
def M.pure {α : Type} (a : α) : M α := fun s => .ok a s
def M.bind {α β : Type} (m : M α) (f : α → M β) : M β := fun s => match m s with
  | .ok a s' => f a s'
  | .err c => .err c
def M.fail {α : Type} : M α := fun _ => .err []
/-- Where it failed (told for whoever mends the reading; nothing hangs on it). -/
def M.tag {α : Type} (n : Nat) (m : M α) : M α := m
def M.of {α : Type} : Option α → M α
  | some a => M.pure a
  | none => M.fail

def bound : Nat := 1152921504606846976

def getBlk (id : Nat) : M Blk := fun s => match s.heap.get id with
  | some b => .ok b { s with rl := id :: s.rl }
  | none => .err [id]
def putBlk (id : Nat) (b : Blk) : M Unit := fun s =>
  bif Nat.blt id bound then T.setK b 64 s.heap id fun h => .ok () { s with heap := h, wl := id :: s.wl } else .err []
def newBlk (b : Blk) : M Nat := fun s =>
  bif Nat.blt s.next bound then T.setK b 64 s.heap s.next fun h => natK (s.next + 1) fun n => .ok s.next { s with heap := h, next := n, wl := s.next :: s.wl } else .err []
theorem putBlk_eq (id : Nat) (b : Blk) (s : St) : putBlk id b s = bif Nat.blt id bound then .ok () { s with heap := s.heap.set b 64 id, wl := id :: s.wl } else .err [] := by
  unfold putBlk
  rw [T.setK_eq]
theorem newBlk_eq (b : Blk) (s : St) : newBlk b s = bif Nat.blt s.next bound then .ok s.next { s with heap := s.heap.set b 64 s.next, next := s.next + 1, wl := s.next :: s.wl } else .err [] := by
  unfold newBlk
  rw [T.setK_eq, natK_eq]
def M.logged {α : Type} (m : M α) : M (α × List Nat × List Nat) := fun s => match m { s with rl := [], wl := [] } with
  | .ok a s' => .ok (a, s'.rl, s'.wl) { s' with rl := s'.rl ++ s.rl, wl := s'.wl ++ s.wl }
  | .err c => .err c

/-! ## Values -/
/-- Is there no address in it? -/
def plain1 : Value → Bool
  | .bool _ | .int .. | .float .. | .complex .. | .string _ | .pointer none | .slice none 0 0 | .nilFunc | .nilIface => true
  | .func (.func _) ⟨[]⟩ ⟨[]⟩ => true
  | _ => false
def plain2 : Value → Bool
  | .agg cs => cs.toList.all plain1
  | v => plain1 v
def plain : Value → Bool
  | .tuple vs => vs.toList.all plain2
  | v => plain2 v

/-- A tree that asks nothing of memory. -/
def value? (P : Program) {α : Type} : Sem α → Option α
  | .pure a => some a
  | .program k => value? P (k P)
  | .mark _ k => value? P k
  | _ => none

structure TI where
  under : TypeDesc
  size : Nat
  bytes : Nat
  zero : List Value
  isAgg : Bool

def vcells : Value → List Value
  | .agg cs => cs.toList
  | v => [v]
def aggDesc : TypeDesc → Bool
  | .struct _ | .array _ _ => true
  | _ => false
def mkTab {α : Type} : Nat → List α → T α
  | _, [] => .nil
  | i, f :: fs => (mkTab (i + 1) fs).set f 64 i
def underOf (is : T TypeInfo) (d : TypeDesc) : Option TypeDesc := match d with
  | .named _ u => match is.get u with
    | some j => some j.desc
    | none => none
  | d => some d
def tiOf (is : T TypeInfo) (t : TypeId) : Option TI := match is.get t with
  | some i => match underOf is i.desc, i.zero with
    | some d, some z => some ⟨d, i.size, i.bytes, vcells z, aggDesc d⟩
    | _, _ => none
  | none => none
structure Env where
  P : Program
  types : T TypeInfo
  funcs : T Func
  orc : FuncId → Option (List Value → M Value)
  glob : Nat

def under? (E : Env) (t : TypeId) : Option TypeDesc := match E.types.get t with
  | some i => underOf E.types i.desc
  | none => none
def tinfo (E : Env) (t : TypeId) : M TI := M.of (tiOf E.types t)

/-! ## Frames -/
def Fr.get (f : Fr) (t : Nat) : Value := match f.tm.get t with
  | some v => v
  | none => undef
def Fr.put (f : Fr) (dst : Option Tmp) (v : Value) : Fr := match dst with
  | none => f
  | some d => bif Nat.blt d f.n then { f with tm := f.tm.set v 64 d } else f
def Fr.eval (f : Fr) : Operand → Value
  | .tmp t => f.get t
  | .const v => v
  | .global g => .pointer (some ⟨g, 0, none⟩)
  | .func g => .func (.func g) #[] #[]

/-! ## Pieces of rows -/
def splice : List Value → Nat → List Value → List Value
  | xs, _, [] => xs
  | [], _, _ => []
  | _ :: xs, 0, v :: vs => v :: splice xs 0 vs
  | x :: xs, o + 1, vs => x :: splice xs o vs
/-- The cells of what may lie in memory. -/
def flat? : Value → Option (List Value)
  | .tuple _ => none
  | .agg cs => some cs.toList
  | v => some [v]
/-- May it be captured? -/
def capOk (v : Value) : Bool := plain1 v || match v with
  | .pointer (some ⟨_, _, none⟩) | .slice (some ⟨_, _, none⟩) _ _ => true
  | _ => false
def window (c : List Value) (off n : Nat) : Option (List Value) := bif Nat.ble (off + n) c.length then some ((c.drop off).take n) else none

def killAll : List Nat → M Unit
  | [] => M.pure ()
  | i :: is => (putBlk i .dead).bind fun _ => killAll is

/-- The cells behind an address. -/
def readAt (id off n : Nat) : M (List Value) := (getBlk id).bind fun
  | .cells c _ _ _ _ => M.of (window c off n)
  | _ => M.fail
/-- One cell. -/
def readOne (id off : Nat) : M Value := (getBlk id).bind fun
  | .cells c _ _ _ _ => M.of c[off]?
  | _ => M.fail
def writeAt (id off : Nat) (vs : List Value) : M Unit := (getBlk id).bind fun
  | .cells c es true false par => bif Nat.ble (off + vs.length) c.length then
      (putBlk id (.cells (splice c off vs) es true false [])).bind fun _ => killAll par
    else M.fail
  | _ => M.fail

/-! ## Operations -/
def loadA (i : TI) (v : Value) : M Value := match v with
  | .pointer (some ⟨id, off, none⟩) =>
    bif i.isAgg then (readAt id off i.size).bind fun c => M.pure (.agg ⟨c⟩)
    else readOne id off
  | _ => M.fail
def storeA (i : TI) (v x : Value) : M Value := match v with
  | .pointer (some ⟨id, off, none⟩) =>
    match flat? x with
    | some c => bif Nat.beq c.length i.size then (writeAt id off c).bind fun _ => M.pure undef else M.fail
    | none => M.fail
  | _ => M.fail

def fieldsOf : TypeDesc → Option (Array Field)
  | .struct fs => some fs
  | _ => none
def elemOf? : TypeDesc → Option TypeId
  | .slice e => some e
  | _ => none

def fillA (place : Nat → Option (Nat × Nat)) : List (Nat × Value) → List Value → Option (List Value)
  | [], c => some c
  | (i, v) :: rest, c => match place i with
    | none => none
    | some (off, size) => match flat? v with
      | some vs => bif Nat.beq vs.length size && Nat.ble (off + size) c.length then fillA place rest (splice c off vs) else none
      | none => none

def repeatA (z : List Value) : Nat → List Value
  | 0 => []
  | n + 1 => z ++ repeatA z n

def capK (n : Nat) : Nat := n + 1

def intA : Value → Option Int
  | .int _ n => some n
  | _ => none
def natA (v : Value) : Option Nat := match v with
  | .int _ (.ofNat n) => some n
  | _ => none

def boundA (v : Option Value) (d : Nat) : Option Nat := match v with
  | none => some d
  | some v => natA v

/-- Low, high, max of a slicing of what has a known cap. -/
def boundsA (len cap : Nat) (lo hi mx : Option Value) : Option (Nat × Nat × Nat) :=
  match boundA mx cap with
  | none => none
  | some m => match boundA hi len with
    | none => none
    | some h => match boundA lo 0 with
      | none => none
      | some l => bif Nat.ble m cap && (Nat.ble h m && (Nat.ble l h && (hi.isSome || mx.isNone))) then some (l, h, m) else none

/-- A slicing of what has a known cap. -/
def sliceK (E : Env) (e : TypeId) (id off len cap : Nat) (lo hi mx : Option Value) : M Value := (tinfo E e).bind fun ie =>
  match boundsA len cap lo hi mx with
  | some (l, h, m) => M.pure (.slice (some ⟨id, bif Nat.beq m l then off else off + l * ie.size, none⟩) (h - l) (capK (m - l)))
  | none => M.fail
/-- How many elements there are surely from a place on. -/
def room (size off len clen : Nat) : Nat := bif Nat.beq size 0 || Nat.beq len 0 then len else Nat.max len ((clen - off) / size)
/-- A slicing of what has an unknown cap, within what is surely there. -/
def sliceU (E : Env) (e : TypeId) (id off len : Nat) (lo hi : Option Value) : M Value := (tinfo E e).bind fun ie =>
  (getBlk id).bind fun
    | .cells c es _ _ _ => match boundsA len (room ie.size off len c.length) lo hi none with
      | some (l, h, _) => bif Nat.beq ie.size es then M.pure (.slice (some ⟨id, off + l * ie.size, none⟩) (h - l) 0) else M.fail
      | none => M.fail
    | _ => M.fail
/-- .. with a given cap. -/
def sliceX (E : Env) (e : TypeId) (id off len : Nat) (lo hi mx : Option Value) : M Value := (tinfo E e).bind fun ie =>
  match boundsA len len lo hi mx with
  | some (l, h, m) => M.pure (bif Nat.beq m l then .slice (some ⟨id, off, none⟩) 0 0 else .slice (some ⟨id, off + l * ie.size, none⟩) (h - l) (capK (m - l)))
  | none => M.fail
def sliceN (E : Env) (e : TypeId) (lo hi mx : Option Value) : M Value := (tinfo E e).bind fun _ => match boundsA 0 0 lo hi mx with
  | some _ => M.pure (.slice none 0 0)
  | none => M.fail

def sliceA (E : Env) (t : TypeId) (x : Value) (lo hi mx : Option Value) : M Value :=
  (tinfo E t).bind fun i => match i.under, x with
  | .array n e, .pointer (some ⟨id, off, none⟩) => sliceK E e id off n n lo hi mx
  | .slice e, .slice (some ⟨id, off, none⟩) len (c + 1) => sliceK E e id off len c lo hi mx
  | .slice e, .slice (some ⟨id, off, none⟩) len 0 => match mx with
    | some _ => sliceX E e id off len lo hi mx
    | none => sliceU E e id off len lo hi
  | .slice e, .slice none 0 0 => sliceN E e lo hi mx
  | _, _ => M.fail

def indexAddrA (E : Env) (t : TypeId) (x ix : Value) : M Value :=
  match natA ix with
  | none => M.fail
  | some k => (tinfo E t).bind fun i => match i.under, x with
    | .array n e, .pointer (some ⟨id, off, none⟩) => (tinfo E e).bind fun ie =>
      bif Nat.blt k n then M.pure (.pointer (some ⟨id, off + k * ie.size, none⟩)) else M.fail
    | .slice e, .slice (some ⟨id, off, none⟩) len _ => (tinfo E e).bind fun ie =>
      bif Nat.blt k len then M.pure (.pointer (some ⟨id, off + k * ie.size, none⟩)) else M.fail
    | _, _ => M.fail

def partA (i : TI) (cs : List Value) (off : Nat) : Option Value :=
  bif i.isAgg then (window cs off i.size).map fun c => .agg ⟨c⟩ else cs[off]?

def toStr : List Value → List UInt8 → Option ByteArray
  | [], acc => some ⟨⟨acc.reverse⟩⟩
  | .int .u8 n :: r, acc => toStr r (UInt8.ofNat n.toNat :: acc)
  | _ :: _, _ => none

def growOk (need bytes : Nat) : Bool := Nat.ble need 1000000 && Nat.ble bytes 1000000

/-- append of n elements, there being surely no room. -/
def appGrow (size bytes : Nat) (olds : List Value) (len n : Nat) (xs : List Value) : M Value :=
  bif growOk (len + n) bytes then
    (newBlk (.cells (olds ++ xs) size true false [])).bind fun id' => M.pure (.slice (some ⟨id', 0, none⟩) (len + n) 0)
  else M.fail
/-- .. to a slice of a known cap. -/
def appKnown (size bytes : Nat) (id off len c n : Nat) (xs : List Value) : M Value :=
  bif Nat.ble (len + n) c then
    bif Nat.beq n 0 then M.pure (.slice (some ⟨id, off, none⟩) len (c + 1)) else
    (writeAt id (off + len * size) xs).bind fun _ => M.pure (.slice (some ⟨id, off, none⟩) (len + n) (c + 1))
  else (readAt id off (len * size)).bind fun olds => appGrow size bytes olds len n xs
/-- .. to a slice of an unknown cap: a new block that may be the elder one's. -/
def appUnknown (size bytes : Nat) (id off len n : Nat) (xs : List Value) : M Value :=
  bif Nat.beq n 0 then M.pure (.slice (some ⟨id, off, none⟩) len 0) else
  bif growOk (len + n) bytes then
    (getBlk id).bind fun
    | .cells c es true false par =>
      bif Nat.beq es size && Nat.ble (off + len * size) c.length then
        bif Nat.ble (len + n) (room size off len c.length) then
          (writeAt id (off + len * size) xs).bind fun _ => M.pure (.slice (some ⟨id, off, none⟩) (len + n) 0)
        else bif Nat.beq (off + len * size) c.length then
          (putBlk id (.cells c es true true par)).bind fun _ =>
          (newBlk (.cells ((c.drop off).take (len * size) ++ xs) size true false (id :: par))).bind fun id' => M.pure (.slice (some ⟨id', 0, none⟩) (len + n) 0)
        else
          (killAll (id :: par)).bind fun _ =>
          (newBlk (.cells ((c.drop off).take (len * size) ++ xs) size true false [])).bind fun id' => M.pure (.slice (some ⟨id', 0, none⟩) (len + n) 0)
      else M.fail
    | _ => M.fail
  else M.fail

/-- append(s, x...), the source's cells at hand: n elements of a size. -/
def appendA (size bytes : Nat) (s : Value) (n : Nat) (xs : List Value) : M Value := match s with
  | .slice none 0 0 => bif Nat.beq n 0 then M.pure (.slice none 0 0) else appGrow size bytes [] 0 n xs
  | .slice (some ⟨id, off, none⟩) len (c + 1) => appKnown size bytes id off len c n xs
  | .slice (some ⟨id, off, none⟩) len 0 => appUnknown size bytes id off len n xs
  | _ => M.fail

def srcCells (size : Nat) (x : Value) : M (Nat × List Value) := match x with
  | .slice none 0 0 => M.pure (0, [])
  | .slice (some ⟨id, off, none⟩) n _ => (readAt id off (n * size)).bind fun c => M.pure (n, c)
  | .string s => bif Nat.beq size 1 then M.pure (s.data.toList.length, s.data.toList.map fun b => .int .u8 b.toNat) else M.fail
  | _ => M.fail

def srcType : TypeDesc → Bool
  | .slice _ | .string => true
  | _ => false

def intType : TypeDesc → Bool
  | .int _ => true
  | _ => false

def appendB (E : Env) (st xt : TypeId) (s x : Value) : M Value :=
  (tinfo E st).bind fun i => (tinfo E xt).bind fun ix => match i.under with
    | .slice e => bif srcType ix.under then (tinfo E e).bind fun ie => (srcCells ie.size x).bind fun nc => appendA ie.size ie.bytes s nc.1 nc.2 else
      bif intType ix.under then (tinfo E e).bind fun ie => (M.of (natA x)).bind fun n => bif growOk n ie.bytes then appendA ie.size ie.bytes s n (repeatA ie.zero n) else M.fail else M.fail
    | _ => M.fail
/-- What a copy into dl elements takes. -/
def srcTake (size dl : Nat) (x : Value) : M (Nat × List Value) := match x with
  | .slice none 0 0 => M.pure (0, [])
  | .slice (some ⟨id, off, none⟩) n _ => (readAt id off (Nat.min n dl * size)).bind fun c => M.pure (Nat.min n dl, c)
  | _ => M.fail
def copyB (E : Env) (st : TypeId) (d : Value) (x : Value) : M Value := match d with
  | .slice (some ⟨id, off, none⟩) dl _ => match under? E st with
    | some (.slice e) => (tinfo E e).bind fun ie => (srcTake ie.size dl x).bind fun nc => (writeAt id off nc.2).bind fun _ => M.pure (goInt nc.1)
    | _ => M.fail
  | _ => M.fail

def clearB (E : Env) (st : TypeId) (x : Value) : M Value := (tinfo E st).bind fun i => match i.under with
  | .slice e => (tinfo E e).bind fun ie => match x with
    | .slice none 0 0 => M.pure undef
    | .slice (some ⟨id, off, none⟩) n _ => (writeAt id off (repeatA ie.zero n)).bind fun _ => M.pure undef
    | _ => M.fail
  | _ => M.fail
def lenA (E : Env) (ats : List TypeId) (x : Value) : Option Value := match ats with
  | t :: _ => match under? E t with
    | some .string => match x with
      | .string s => some (goInt s.data.toList.length)
      | _ => none
    | some (.slice _) => match x with
      | .slice _ n _ => some (goInt n)
      | _ => none
    | some (.array n _) => some (goInt n)
    | _ => none
  | [] => none
def capA (E : Env) (ats : List TypeId) (x : Value) : Option Value := match ats with
  | t :: _ => match under? E t with
    | some (.slice _) => match x with
      | .slice (some ⟨_, _, none⟩) _ (c + 1) => some (goInt c)
      | .slice none 0 0 => some (goInt 0)
      | _ => none
    | _ => none
  | [] => none
def builtinA (E : Env) (b : Builtin) (ats : List TypeId) (args : List Value) : M Value := match b with
  | .len => match args with
    | x :: _ => M.of (lenA E ats x)
    | [] => M.fail
  | .cap => match args with
    | x :: _ => M.of (capA E ats x)
    | [] => M.fail
  | .append => match args with
    | [s, x] => match ats with
      | [st, xt] => appendB E st xt s x
      | _ => M.fail
    | _ => M.fail
  | .copy => match args with
    | d :: x :: _ => match ats with
      | st :: _ => copyB E st d x
      | _ => M.fail
    | _ => M.fail
  | .clear => match args with
    | [x] => match ats with
      | [st] => clearB E st x
      | _ => M.fail
    | _ => M.fail
  | _ => M.fail

def wrapA (k : IntKind) (n : Int) : Int := match k, n with
  | .i64, .ofNat m => bif Nat.blt m 9223372036854775808 then .ofNat m else IntKind.wrap .i64 (.ofNat m)
  | .i32, .ofNat m => bif Nat.blt m 2147483648 then .ofNat m else IntKind.wrap .i32 (.ofNat m)
  | .u8, .ofNat m => bif Nat.blt m 256 then .ofNat m else IntKind.wrap .u8 (.ofNat m)
  | k, n => k.wrap n
def ltA : Int → Int → Bool
  | .ofNat a, .ofNat b => Nat.blt a b
  | .ofNat _, .negSucc _ => false
  | .negSucc _, .ofNat _ => true
  | .negSucc a, .negSucc b => Nat.blt b a
def eqA : Int → Int → Bool
  | .ofNat a, .ofNat b => Nat.beq a b
  | .negSucc a, .negSucc b => Nat.beq a b
  | _, _ => false
def intBinA (op : BinOp) (k : IntKind) (a b : Int) : Option Value := match op with
  | .add => some (.int k (wrapA k (a + b)))
  | .sub => some (.int k (wrapA k (a - b)))
  | .mul => some (.int k (wrapA k (a * b)))
  | .eql => some (.bool (eqA a b))
  | .neq => some (.bool (!eqA a b))
  | .lss => some (.bool (ltA a b))
  | .leq => some (.bool (!ltA b a))
  | .gtr => some (.bool (ltA b a))
  | .geq => some (.bool (!ltA a b))
  | _ => none
def bytesEq : List UInt8 → List UInt8 → Bool
  | [], [] => true
  | a :: as, b :: bs => bif Nat.beq a.toNat b.toNat then bytesEq as bs else false
  | _, _ => false
def strBinA (op : BinOp) (a b : ByteArray) : Option Value := match op with
  | .eql => some (.bool (bytesEq a.data.toList b.data.toList))
  | .neq => some (.bool (!bytesEq a.data.toList b.data.toList))
  | _ => none
def fastBin (op : BinOp) (x y : Value) : Option Value := match x with
  | .int k a => match y with
    | .int l b => bif k == l then intBinA op k a b else none
    | _ => none
  | .string a => match y with
    | .string b => strBinA op a b
    | _ => none
  | _ => none

/-- Equality of values other than numbers, strings and structs. -/
def eqV (d : TypeDesc) (x y : Value) : Option Bool := match d with
  | .bool => match x with
    | .bool a => match y with
      | .bool b => some (a == b)
      | _ => none
    | _ => none
  | .pointer _ => match x with
    | .pointer none => match y with
      | .pointer none => some true
      | .pointer (some _) => some false
      | _ => none
    | .pointer (some _) => match y with
      | .pointer none => some false
      | _ => none
    | _ => none
  | .slice _ => match x with
    | .slice none 0 0 => match y with
      | .slice none 0 0 => some true
      | .slice (some _) _ _ => some false
      | _ => none
    | .slice (some _) _ _ => match y with
      | .slice none 0 0 => some false
      | _ => none
    | _ => none
  | .func _ _ _ => match x with
    | .nilFunc => match y with
      | .nilFunc => some true
      | .func _ _ _ => some false
      | _ => none
    | .func _ _ _ => match y with
      | .nilFunc => some false
      | _ => none
    | _ => none
  | _ => none
def eqNil (op : BinOp) (e : Bool) : Option Value := match op with
  | .eql => some (.bool e)
  | .neq => some (.bool (!e))
  | _ => none
def eqT (E : Env) (op : BinOp) (t : TypeId) (x y : Value) : Option Value := match under? E t with
  | some d => match eqV d x y with
    | some b => eqNil op b
    | none => none
  | none => none

/-- Numbers that are not below zero, of one kind. -/
def nat2 (x y : Value) (f : IntKind → Nat → Nat → Option Value) : Option Value := match x with
  | .int k (.ofNat a) => match y with
    | .int l (.ofNat b) => bif k == l then f k a b else none
    | _ => none
  | _ => none
def natSh (x y : Value) (f : IntKind → Nat → Nat → Option Value) : Option Value := match x with
  | .int k (.ofNat a) => match y with
    | .int _ (.ofNat b) => f k a b
    | _ => none
  | _ => none
def bitsK (k : IntKind) : Nat := match k with
  | .i8 => 8
  | .i16 => 16
  | .i32 => 32
  | .i64 => 64
  | .u8 => 8
  | .u16 => 16
  | .u32 => 32
  | .u64 => 64
def limK (k : IntKind) : Nat := match k with
  | .i8 => 256
  | .i16 => 65536
  | .i32 => 4294967296
  | .i64 => 18446744073709551616
  | .u8 => 256
  | .u16 => 65536
  | .u32 => 4294967296
  | .u64 => 18446744073709551616
def inK (k : IntKind) (a b : Nat) (v : Option Value) : Option Value := bif Nat.blt a (limK k) && Nat.blt b (limK k) then v else none
/-- The other operations on numbers and strings. -/
def fastBin2 (op : BinOp) (x y : Value) : Option Value := match op with
  | .add => match x with
    | .string a => match y with
      | .string b => bif Nat.ble (a.data.toList.length + b.data.toList.length) 4611686018427387904 then some (.string ⟨⟨a.data.toList ++ b.data.toList⟩⟩) else none
      | _ => none
    | _ => none
  | .quo => nat2 x y fun k a b => bif Nat.beq b 0 then none else some (.int k (wrapA k (.ofNat (a / b))))
  | .rem => nat2 x y fun k a b => bif Nat.beq b 0 then none else some (.int k (.ofNat (a % b)))
  | .and => nat2 x y fun k a b => inK k a b (some (.int k (wrapA k (.ofNat (Nat.land a b)))))
  | .or => nat2 x y fun k a b => inK k a b (some (.int k (wrapA k (.ofNat (Nat.lor a b)))))
  | .xor => nat2 x y fun k a b => inK k a b (some (.int k (wrapA k (.ofNat (Nat.xor a b)))))
  | .shl => natSh x y fun k a b => bif Nat.ble b (bitsK k) then some (.int k (wrapA k (.ofNat (a * 2 ^ b)))) else none
  | .shr => natSh x y fun k a b => bif Nat.ble b (bitsK k) then some (.int k (.ofNat (a / 2 ^ b))) else none
  | _ => none

/-- Equality of structs of numbers, strings and truths. -/
def scalar : TypeDesc → Bool
  | .int _ => true
  | .string => true
  | .bool => true
  | _ => false
def eqCell (d : TypeDesc) (x y : Value) : Option Bool := match d with
  | .int _ => match x with
    | .int k a => match y with
      | .int l b => bif k == l then some (eqA a b) else none
      | _ => none
    | _ => none
  | .string => match x with
    | .string a => match y with
      | .string b => some (bytesEq a.data.toList b.data.toList)
      | _ => none
    | _ => none
  | .bool => match x with
    | .bool a => match y with
      | .bool b => some (a == b)
      | _ => none
    | _ => none
  | _ => none
def eqFlat (is : T TypeInfo) (xs ys : List Value) : List Field → Option Bool
  | [] => some true
  | f :: fs => match tiOf is f.type with
    | none => none
    | some i => match xs[f.offset]? with
      | none => none
      | some x => match ys[f.offset]? with
        | none => none
        | some y => match eqCell i.under x y with
          | none => none
          | some b => bif b then eqFlat is xs ys fs else some false
def flatField (is : T TypeInfo) (f : Field) : Bool := !(f.name == "_") && match tiOf is f.type with
  | none => false
  | some i => scalar i.under && !i.isAgg
def flatT (E : Env) (t : TypeId) : Bool := match under? E t with
  | some (.struct fs) => !E.P.stoodInHeld t && (!E.P.eqGuardType E.P.depth t && fs.toList.all (flatField E.types))
  | _ => false
def eqStruct (E : Env) (op : BinOp) (t : TypeId) (x y : Value) : Option Value := match x with
  | .agg cs => match y with
    | .agg ds => bif flatT E t then match under? E t with
        | some (.struct fs) => match eqFlat E.types cs.toList ds.toList fs.toList with
          | some b => eqNil op b
          | none => none
        | _ => none
      else none
    | _ => none
  | _ => none

/-- The general rule: operands without addresses. -/
def plainA (E : Env) (ρ : Operand → Value) (o : Oper) : Option Value :=
  bif o.op.operands.toList.all (fun x => plain (ρ x)) then
    match value? E.P (execOp ρ o) with
    | some (.value v) => bif plain v then some v else none
    | _ => none
  else none

def strSlice (E : Env) (t : TypeId) (s : ByteArray) (lo hi mx : Option Value) : Option Value := match under? E t with
  | some .string => match mx with
    | none => match boundsA s.data.toList.length s.data.toList.length lo hi none with
      | some (l, h, _) => some (.string ⟨⟨(s.data.toList.drop l).take (h - l)⟩⟩)
      | none => none
    | some _ => none
  | _ => none
def strIndex (E : Env) (t : TypeId) (s : ByteArray) (ix : Value) : Option Value := match under? E t with
  | some .string => match natA ix with
    | some k => match s.data.toList[k]? with
      | some b => some (.int .u8 b.toNat)
      | none => none
    | none => none
  | _ => none
/-- A conversion that makes no memory. -/
def convA (E : Env) (src dst : TypeId) (x : Value) : Option Value := match under? E src with
  | none => none
  | some _ => match x with
    | .int _ n => match under? E dst with
      | some (.int k) => some (.int k (wrapA k n))
      | some .string => some (.string (Utf8.encode n))
      | _ => none
    | .string s => match under? E dst with
      | some .string => some (.string s)
      | _ => none
    | _ => none
/-- A string's bytes as a slice. -/
def bytesA (E : Env) (src dst : TypeId) (s : ByteArray) : M Value := match under? E src with
  | some .string => match under? E dst with
    | some (.slice e) => match under? E e with
      | some (.int .u8) => (newBlk (.cells (s.data.toList.map fun b => .int .u8 b.toNat) 1 true false [])).bind fun id => M.pure (.slice (some ⟨id, 0, none⟩) s.data.toList.length 0)
      | _ => M.fail
    | _ => M.fail
  | _ => M.fail
/-- A slice of bytes as a string. -/
def stringA (E : Env) (src dst : TypeId) (x : Value) : M Value := match under? E src with
  | some (.slice e) => match under? E dst with
    | some .string => match under? E e with
      | some (.int .u8) => match x with
        | .slice none 0 0 => M.pure (.string .empty)
        | .slice (some ⟨id, off, none⟩) n _ => (readAt id off n).bind fun c => (M.of (toStr c [])).bind fun s => M.pure (.string s)
        | _ => M.fail
      | _ => M.fail
    | _ => M.fail
  | _ => M.fail
def convM (E : Env) (src dst : TypeId) (x : Value) : M Value := match x with
  | .string s => bytesA E src dst s
  | x => stringA E src dst x

def makeSliceA (E : Env) (t : TypeId) (l c : Nat) : M Value := (tinfo E t).bind fun i => match i.under with
  | .slice e => (tinfo E e).bind fun j => bif Nat.ble l c && (Nat.ble c 1000000 && Nat.ble j.bytes 1000000) then
      (newBlk (.cells (repeatA j.zero c) j.size true false [])).bind fun id => M.pure (.slice (some ⟨id, 0, none⟩) l (capK c)) else M.fail
  | _ => M.fail
def nextA (it : Value) : M Value := match it with
  | .pointer (some ⟨id, 0, none⟩) => (getBlk id).bind fun
    | .iter s pos => bif Nat.blt pos s.data.toList.length then
        (putBlk id (.iter s (pos + (Utf8.decode s pos).2))).bind fun _ => M.pure (.tuple ⟨[.bool true, goInt pos, .int .i32 (Utf8.decode s pos).1]⟩)
      else M.pure (.tuple ⟨[.bool false]⟩)
    | _ => M.fail
  | _ => M.fail

def callA (E : Env) (call : Cal → List Value → M Value) (f : Value) (args : List Value) : M Value := match f with
  | .func (.yield id) ⟨[]⟩ ⟨[]⟩ => call (.yl id) args
  | .func (.func g) first captured =>
    let all := first.toList ++ args ++ captured.toList
    match E.funcs.get g with
    | none => M.fail
    | some fn => match fn.body with
      | some _ => call (.fn g) all
      | none => bif all.all plain then match value? E.P (callFunc g ⟨all⟩) with
          | some (.value v) => bif plain v then M.pure v else M.fail
          | _ => M.fail
        else M.fail
  | _ => M.fail

def aop (E : Env) (call : Cal → List Value → M Value) (ρ : Operand → Value) (o : Oper) : M Value :=
  match o.op with
  | .move x | .assign x => M.pure (ρ x)
  | .pick c a b => match ρ c with
    | .bool t => M.pure (bif t then ρ a else ρ b)
    | _ => M.fail
  | .alloc t => (tinfo E t).bind fun i => (newBlk (.cells i.zero i.size true false [])).bind fun id => M.pure (.pointer (some ⟨id, 0, none⟩))
  | .box t x => (M.of (flat? (ρ x))).bind fun c => (newBlk (.cells c 0 true false [])).bind fun id => M.pure (.pointer (some ⟨id, 0, none⟩))
  | .build t parts => (tinfo E t).bind fun i => match i.under with
    | .struct fs =>
      let ps := parts.toList.map fun (k, x) => (k, ρ x)
      let place := fun k => match fs[k]? with
        | none => none
        | some (f : Field) => match tiOf E.types f.type with
          | none => none
          | some j => some (f.offset, j.size)
      (M.of (fillA place ps i.zero)).bind fun c => M.pure (.agg ⟨c⟩)
    | .array _ e => (tinfo E e).bind fun j => (M.of (fillA (fun k => some (k * j.size, j.size)) (parts.toList.map fun (k, x) => (k, ρ x)) i.zero)).bind fun c => M.pure (.agg ⟨c⟩)
    | _ => M.fail
  | .buildSlice t len parts => (tinfo E t).bind fun i => match i.under with
    | .slice e => (tinfo E e).bind fun j =>
      (M.of (fillA (fun k => some (k * j.size, j.size)) (parts.toList.map fun (k, x) => (k, ρ x)) (repeatA j.zero len))).bind fun c =>
      bif Nat.ble (len * j.size) 16777216 then (newBlk (.cells c j.size true false [])).bind fun id => M.pure (.slice (some ⟨id, 0, none⟩) len (capK len)) else M.fail
    | _ => M.fail
  | .load t a => (tinfo E t).bind fun i => loadA i (ρ a)
  | .store t a x => (tinfo E t).bind fun i => storeA i (ρ a) (ρ x)
  | .nilCheck x => match ρ x with
    | .pointer (some a) => M.pure (.pointer (some a))
    | .func (.func f) a b => M.pure (.func (.func f) a b)
    | _ => M.fail
  | .makeFunc (.func f) first captured => bif (first.toList.map ρ).all capOk && (captured.toList.map ρ).all capOk then
      M.pure (.func (.func f) ⟨first.toList.map ρ⟩ ⟨captured.toList.map ρ⟩) else M.fail
  | .fieldAddr s x k => (tinfo E s).bind fun i => match i.under, ρ x with
    | .struct fs, .pointer (some ⟨id, off, none⟩) => match fs[k]? with
      | some f => (tinfo E f.type).bind fun j => bif Nat.beq j.size 0 then M.fail else M.pure (.pointer (some ⟨id, off + f.offset, none⟩))
      | none => M.fail
    | _, _ => M.fail
  | .field s x k => (tinfo E s).bind fun i => match i.under, ρ x with
    | .struct fs, .agg cs => match fs[k]? with
      | some f => (tinfo E f.type).bind fun j => M.of (partA j cs.toList f.offset)
      | none => M.fail
    | _, _ => M.fail
  | .indexAddr t x ix => indexAddrA E t (ρ x) (ρ ix)
  | .extract t k => match ρ t with
    | .tuple vs => M.of vs[k]?
    | _ => M.fail
  | .binOp op t x y _ => match fastBin op (ρ x) (ρ y) with
    | some v => M.pure v
    | none => match fastBin2 op (ρ x) (ρ y) with
      | some v => M.pure v
      | none => match eqT E op t (ρ x) (ρ y) with
        | some v => M.pure v
        | none => match eqStruct E op t (ρ x) (ρ y) with
          | some v => M.pure v
          | none => M.of (plainA E ρ o)
  | .slice t x lo hi mx => match ρ x with
    | .string s => M.of (strSlice E t s (lo.map ρ) (hi.map ρ) (mx.map ρ))
    | x => sliceA E t x (lo.map ρ) (hi.map ρ) (mx.map ρ)
  | .index t x ix => match ρ x with
    | .string s => M.of (strIndex E t s (ρ ix))
    | _ => M.of (plainA E ρ o)
  | .makeSlice t l c => match natA (ρ l) with
    | some l => match natA (ρ c) with
      | some c => makeSliceA E t l c
      | none => M.fail
    | none => M.fail
  | .convert src dst x => match convA E src dst (ρ x) with
    | some v => M.pure v
    | none => convM E src dst (ρ x)
  | .range t x => match ρ x with
    | .string s => match under? E t with
      | some .string => (newBlk (.iter s 0)).bind fun id => M.pure (.pointer (some ⟨id, 0, none⟩))
      | _ => M.fail
    | _ => M.fail
  | .next it true => nextA (ρ it)
  | .call c => match c.callee with
    | .value f => callA E call (ρ f) (c.args.toList.map ρ)
    | .builtin b => match b with
      | .min => M.of (plainA E ρ o)
      | .max => M.of (plainA E ρ o)
      | b => builtinA E b c.argTypes.toList (c.args.toList.map ρ)
    | _ => M.fail
  | .select _ _ => M.fail
  | .defer _ => M.fail
  | _ => M.of (plainA E ρ o)

/-! ## Regions -/
def wantedA (ops : List Oper) (f : Fr) (o : Oper) : Bool := match o.guard with
  | none => true
  | some (j, want) => match ops[j]? with
    | none => false
    | some oj => match oj.dst with
      | none => false
      | some d => bif Nat.blt d f.n then (match f.get d with
        | .bool b => b == want
        | _ => false) else false

def aoper (E : Env) (call : Cal → List Value → M Value) (ops : List Oper) (f : Fr) (o : Oper) : M Value :=
  bif wantedA ops f o then M.tag (o.dst.getD 999) (aop E call f.eval o) else M.pure undef

def aseq (E : Env) (call : Cal → List Value → M Value) (ops : List Oper) : List Oper → Fr → M Fr
  | [], f => M.pure f
  | o :: rest, f => (aoper E call ops f o).bind fun v => aseq E call ops rest (f.put o.dst v)

def aseqLog (E : Env) (call : Cal → List Value → M Value) (ops : List Oper) : List Oper → Fr → M (Fr × List (List Nat × List Nat))
  | [], f => M.pure (f, [])
  | o :: rest, f => (M.logged (aoper E call ops f o)).bind fun (v, r, w) =>
    (aseqLog E call ops rest (f.put o.dst v)).bind fun (f', ls) => M.pure (f', (r, w) :: ls)

def memb (x : Nat) : List Nat → Bool
  | [] => false
  | y :: ys => bif Nat.beq x y then true else memb x ys
def meet (xs ys : List Nat) : Bool := match xs with
  | [] => false
  | x :: xs => bif memb x ys then true else meet xs ys
def clash (a b : List Nat × List Nat) : Bool := meet a.2 b.1 || (meet a.2 b.2 || meet b.2 a.1)
def clashAll (before : Nat) (l : List Nat × List Nat) : Nat → List (List Nat × List Nat) → Bool
  | _, [] => true
  | i, m :: ms => (!(clash l m) || Nat.testBit before i) && clashAll before l (i + 1) ms
/-- Of two that touch one block, one of them writing it, the order is fixed. -/
def orderOk (bs : List Nat) (earlier : List (List Nat × List Nat)) : List (List Nat × List Nat) → Bool
  | [] => true
  | l :: ls => match bs with
    | [] => false
    | b :: bs => clashAll b l 0 earlier && orderOk bs (earlier ++ [l]) ls
def quietLogs (ls : List (List Nat × List Nat)) : Bool := ls.all fun l => match l.2 with
  | [] => true
  | _ => false

def aregion (E : Env) (call : Cal → List Value → M Value) (ops : Array Oper) (draw : Bool) (f : Fr) : M Fr :=
  bif draw then (aseqLog E call ops.toList ops.toList f).bind fun fl =>
    bif quietLogs fl.2 || orderOk (Region.before ops).toList [] fl.2 then M.pure fl.1 else M.fail
  else aseq E call ops.toList ops.toList f

/-! ## Code -/
def aloop (body : Fr → M (Ex × Fr)) : Nat → Fr → M (Ex × Fr)
  | 0, _ => M.fail
  | n + 1, f => (body f).bind fun ef => match ef.1 with
    | .normal => aloop body n ef.2
    | _ => M.pure ef

def exOfPend : Option Ex → Ex
  | none => .normal
  | some x => x
def shutLoop (L : Nat) : M Ex := (getBlk L).bind fun
  | .lp .ready pend d => (putBlk L (.lp .exhausted pend d)).bind fun _ => M.pure (exOfPend pend)
  | .lp .done pend d => (putBlk L (.lp .exhausted pend d)).bind fun _ => M.pure (exOfPend pend)
  | _ => M.fail

def acode (E : Env) (call : Cal → List Value → M Value) (rd : Bool) (N : Nat) : Code → Fr → M (Ex × Fr)
  | .skip, f => M.pure (.normal, f)
  | .label _, f => M.pure (.normal, f)
  | .region _ ops draw, f => (aregion E call ops draw f).bind fun f' => M.pure (.normal, f')
  | .seq a b, f => (acode E call rd N a f).bind fun ef => match ef.1 with
    | .normal => acode E call rd N b ef.2
    | _ => M.pure ef
  | .cond c t e, f => match f.eval c with
    | .bool b => bif b then acode E call rd N t f else acode E call rd N e f
    | _ => M.fail
  | .block id b, f => (acode E call rd N b f).bind fun ef => match ef.1 with
    | .exit i => bif Nat.beq i id then M.pure (.normal, ef.2) else M.pure ef
    | _ => M.pure ef
  | .loop b, f => aloop (acode E call rd N b) N f
  | .scope b, f => bif rd then M.fail else acode E call rd N b f
  | .exit id, f => M.pure (.exit id, f)
  | .ret, f => M.pure (.ret, f)
  | .rangeFunc g ps assign body, f => bif rd then M.fail else match f.eval g with
    | .func (.func g) first captured => match E.funcs.get g with
      | none => M.fail
      | some fn => match fn.body with
        | none => M.fail
        | some _ =>
          (newBlk .df).bind fun D => (newBlk (.lp .ready none ⟨f, ps.toList, assign, body⟩)).bind fun L =>
          (call (.fn g) (first.toList ++ [.func (.yield L) #[] #[]] ++ captured.toList)).bind fun _ =>
          (shutLoop L).bind fun x => M.pure (x, { f with marks := D :: f.marks })
    | _ => M.fail
  | _, _ => M.fail

def setArgs : T Value → Nat → List Value → T Value
  | t, _, [] => t
  | t, i, v :: vs => setArgs (t.set v 64 i) (i + 1) vs

def aresult (E : Env) (f : Fr) : ResultVar → M Value
  | .tmp t => M.pure (f.get t)
  | .cell a t => (tinfo E t).bind fun i => loadA i (f.get a)
def aresults (E : Env) (f : Fr) : List ResultVar → M (List Value)
  | [] => M.pure []
  | r :: rs => (aresult E f r).bind fun v => (aresults E f rs).bind fun vs => M.pure (v :: vs)
def packA (vs : List Value) : M Value := match vs with
  | [v] => M.pure v
  | vs => bif vs.all (fun v => match v with | .tuple _ => false | _ => true) then M.pure (.tuple ⟨vs⟩) else M.fail

/-- The deferred calls' blocks of loops over functions: none is in them. -/
def takeAll : List Nat → M Unit
  | [] => M.pure ()
  | D :: ds => (getBlk D).bind fun
    | .df => (putBlk D .dead).bind fun _ => takeAll ds
    | _ => M.fail

def putParams : Fr → List Tmp → List Value → Fr
  | f, p :: ps, v :: vs => putParams (f.put (some p) v) ps vs
  | f, _, _ => f
def beginRound (id : Nat) : M Unit := (getBlk id).bind fun
  | .lp .ready pend d => putBlk id (.lp .busy pend d)
  | _ => M.fail
def endRound (id : Nat) (x : Ex) : M Value := (getBlk id).bind fun
  | .lp .busy _ d => match x with
    | .normal => (putBlk id (.lp .ready none d)).bind fun _ => M.pure (.bool true)
    | x => (putBlk id (.lp .done (some x) d)).bind fun _ => M.pure (.bool false)
  | _ => M.fail

/-! ## What is asked of code, off its text -/
/-- What may stand as an operand. -/
def opdOk (G : Nat) : Operand → Bool
  | .tmp _ => true
  | .const v => plain v
  | .global g => Nat.blt g G
  | .func _ => true
/-- What is asked of a region that draws, off its text. -/
def drawOk (ops : Array Oper) : Bool :=
  let bs := Region.before ops
  ((List.range ops.size).all fun j => match ops[j]? with
    | none => true
    | some o => o.after.toList.all fun e => !Region.binds .any e || Nat.blt e.on j) &&
  ((List.range ops.size).all fun j => (List.range j).all fun i => (bs.getD j 0).testBit i || match ops[i]?, ops[j]? with
    | some x, some y => x.apart ops y
    | _, _ => true)
def opsOk (G : Nat) (ops : Array Oper) : Bool := ops.toList.all fun o => o.op.operands.toList.all (opdOk G)
def codeOk (G : Nat) : Code → Bool
  | .region _ ops draw => opsOk G ops && (!draw || drawOk ops)
  | .seq a b => codeOk G a && codeOk G b
  | .cond c t e => opdOk G c && (codeOk G t && codeOk G e)
  | .block _ b => codeOk G b
  | .loop b => codeOk G b
  | .scope b => codeOk G b
  | .rangeFunc f _ _ _ => opdOk G f
  | _ => true

/-- A round of a loop over a function. -/
def around (E : Env) (call : Cal → List Value → M Value) (N : Nat) (id : Nat) (args : List Value) : M Value := (getBlk id).bind fun
  | .lp _ _ d =>
    bif Nat.beq args.length d.params.length && (codeOk E.glob d.assign && codeOk E.glob d.body) then
      (acode E call true N d.assign (putParams { d.fr with marks := [] } d.params args)).bind fun ef => match ef.1 with
      | .normal => (beginRound id).bind fun _ => (acode E call true N d.body ef.2).bind fun eb => endRound id eb.1
      | _ => M.fail
    else M.fail
  | _ => M.fail

def acall (E : Env) (N : Nat) : Nat → Cal → List Value → M Value
  | 0, _, _ => M.fail
  | n + 1, .yl id, args => M.tag 20000 (around E (acall E N n) N id args)
  | n + 1, .fn g, args => M.tag (g + 10000) <| match E.orc g with
    | some h => h args
    | none => match E.funcs.get g with
      | none => M.fail
      | some fn => match fn.body with
        | none => M.fail
        | some c => bif Nat.blt (args.length + (fn.ntmps - args.length)) bound then
          (acode E (acall E N n) false N c { tm := setArgs .nil 0 args, n := args.length + (fn.ntmps - args.length), marks := [] }).bind fun ef => match ef.1 with
          | .exit _ => M.fail
          | _ => (takeAll ef.2.marks).bind fun _ => (aresults E ef.2 fn.results.toList).bind packA
          else M.fail

end
end Go.Abs

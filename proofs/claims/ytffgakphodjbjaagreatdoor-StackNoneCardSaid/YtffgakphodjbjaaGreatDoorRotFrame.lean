/- What a reading reads and writes: a reading from another state that agrees on what was read gives the same. -/
import Derived.Test.YtffgakphodjbjaaGreatDoorRotAbs
set_option linter.unusedVariables false
set_option linter.unusedSimpArgs false
namespace Go.Abs

/-! ## Tries -/
theorem T.get_nil {α : Type} (n : Nat) : (T.nil : T α).get n = none := by cases n <;> rfl

theorem T.get_set_self {α : Type} (v : α) : ∀ (f : Nat) (t : T α) (n : Nat), n + 1 < 2 ^ f → (T.set v f t n).get n = some v
  | 0, t, n, h => absurd h (by simp)
  | f + 1, .nil, 0, _ => rfl
  | f + 1, .node l o r, 0, _ => rfl
  | f + 1, .nil, n + 1, h => by
    have hb : n / 2 + 1 < 2 ^ f := by rw [Nat.pow_succ] at h; omega
    unfold T.set
    cases hc : Nat.beq (n % 2) 0 <;> simp only [cond_true, cond_false] <;> simp only [T.get_succ, hc, cond_true, cond_false] <;> exact T.get_set_self v f _ _ hb
  | f + 1, .node l o r, n + 1, h => by
    have hb : n / 2 + 1 < 2 ^ f := by rw [Nat.pow_succ] at h; omega
    unfold T.set
    cases hc : Nat.beq (n % 2) 0 <;> simp only [cond_true, cond_false] <;> simp only [T.get_succ, hc, cond_true, cond_false] <;> exact T.get_set_self v f _ _ hb

theorem half_ne {n m : Nat} (h : n ≠ m) (hc : Nat.beq (n % 2) 0 = Nat.beq (m % 2) 0) : n / 2 ≠ m / 2 := by
  intro hd
  cases hb : Nat.beq (n % 2) 0
  · rw [hb] at hc
    have h1 := Nat.ne_of_beq_eq_false hb
    have h2 := Nat.ne_of_beq_eq_false hc.symm
    omega
  · rw [hb] at hc
    have h1 := Nat.eq_of_beq_eq_true hb
    have h2 := Nat.eq_of_beq_eq_true hc.symm
    omega

theorem T.get_set_ne {α : Type} (v : α) : ∀ (f : Nat) (t : T α) (n m : Nat), m ≠ n → (T.set v f t n).get m = t.get m
  | 0, t, n, m, h => rfl
  | f + 1, .nil, 0, 0, h => absurd rfl h
  | f + 1, .nil, 0, m + 1, h => by
    show T.get (T.node .nil (some v) .nil) (m + 1) = _
    rw [T.get_succ]
    cases Nat.beq (m % 2) 0 <;> simp [T.get_nil]
  | f + 1, .node l o r, 0, 0, h => absurd rfl h
  | f + 1, .node l o r, 0, m + 1, h => rfl
  | f + 1, .nil, n + 1, 0, h => by
    unfold T.set
    cases Nat.beq (n % 2) 0 <;> rfl
  | f + 1, .node l o r, n + 1, 0, h => by
    unfold T.set
    cases Nat.beq (n % 2) 0 <;> rfl
  | f + 1, .nil, n + 1, m + 1, h => by
    unfold T.set
    cases hn : Nat.beq (n % 2) 0 <;> cases hm : Nat.beq (m % 2) 0 <;> simp only [cond_true, cond_false] <;> simp only [T.get_succ, hm, cond_true, cond_false, T.get_nil]
    · rw [T.get_set_ne v f _ _ _ (half_ne (by omega) (hm.trans hn.symm))]; exact T.get_nil _
    · rw [T.get_set_ne v f _ _ _ (half_ne (by omega) (hm.trans hn.symm))]; exact T.get_nil _
  | f + 1, .node l o r, n + 1, m + 1, h => by
    unfold T.set
    cases hn : Nat.beq (n % 2) 0 <;> cases hm : Nat.beq (m % 2) 0 <;> simp only [cond_true, cond_false] <;> simp only [T.get_succ, hm, cond_true, cond_false]
    · exact T.get_set_ne v f _ _ _ (half_ne (by omega) (hm.trans hn.symm))
    · exact T.get_set_ne v f _ _ _ (half_ne (by omega) (hm.trans hn.symm))

theorem bound_lt {n : Nat} (h : Nat.blt n bound = true) : n + 1 < 2 ^ 64 := by
  have : n < bound := by rw [Nat.blt_eq] at h; exact h
  unfold bound at this
  omega

theorem T.get_set {α : Type} (v : α) (t : T α) (n m : Nat) (h : Nat.blt n bound = true) : (t.set v 64 n).get m = if m = n then some v else t.get m := by
  by_cases e : m = n
  · subst e; rw [if_pos rfl]; exact T.get_set_self v 64 t m (bound_lt h)
  · rw [if_neg e]; exact T.get_set_ne v 64 t n m e

/-! ## Footprints -/
structure Foot (s s' : St) (R W : List Nat) : Prop where
  rl : s'.rl = R ++ s.rl
  wl : s'.wl = W ++ s.wl
  nx : s.next ≤ s'.next
  keep : ∀ id, id ∉ W → s'.heap.get id = s.heap.get id

theorem Foot.refl (s : St) : Foot s s [] [] := ⟨rfl, rfl, Nat.le_refl _, fun _ _ => rfl⟩
theorem Foot.trans {a b c : St} {R W R' W' : List Nat} (h : Foot a b R W) (k : Foot b c R' W') : Foot a c (R' ++ R) (W' ++ W) :=
  ⟨by rw [k.rl, h.rl, List.append_assoc], by rw [k.wl, h.wl, List.append_assoc], Nat.le_trans h.nx k.nx, fun id hid => by
    rw [k.keep id (fun h => hid (List.mem_append.2 (.inl h))), h.keep id (fun h => hid (List.mem_append.2 (.inr h)))]⟩

/-- The reading m, from whatever state that agrees on what it read. -/
def Again {α : Type} (m : M α) (s : St) (v : α) (s' : St) (R W : List Nat) : Prop :=
  ∀ t : St, t.next = s.next → (∀ id, id ∈ R → t.heap.get id = s.heap.get id) →
    ∃ t', m t = .ok v t' ∧ t'.next = s'.next ∧ Foot t t' R W ∧ ∀ id, id ∈ W → t'.heap.get id = s'.heap.get id

def Framed {α : Type} (m : M α) : Prop := ∀ s v s', m s = .ok v s' → ∃ R W, Foot s s' R W ∧ Again m s v s' R W

theorem Framed.pure {α : Type} (a : α) : Framed (M.pure a) := by
  intro s v s' h
  cases h
  exact ⟨[], [], Foot.refl _, fun t hn _ => ⟨t, rfl, hn, Foot.refl _, fun _ h => by cases h⟩⟩
theorem Framed.fail {α : Type} : Framed (M.fail : M α) := fun s v s' h => by cases h
theorem Framed.of {α : Type} (o : Option α) : Framed (M.of o) := by
  cases o
  · exact Framed.fail
  · exact Framed.pure _
theorem Framed.bind {α β : Type} {m : M α} {f : α → M β} (hm : Framed m) (hf : ∀ a, Framed (f a)) : Framed (m.bind f) := by
  intro s v s' h
  unfold M.bind at h
  cases hr : m s with
  | err c => rw [hr] at h; cases h
  | ok a s1 =>
    rw [hr] at h
    obtain ⟨R, W, ft, ag⟩ := hm s a s1 hr
    obtain ⟨R', W', ft', ag'⟩ := hf a s1 v s' h
    refine ⟨R' ++ R, W' ++ W, ft.trans ft', fun t hn hh => ?_⟩
    obtain ⟨t1, h1, n1, f1, w1⟩ := ag t hn (fun id hid => hh id (List.mem_append.2 (.inr hid)))
    obtain ⟨t2, h2, n2, f2, w2⟩ := ag' t1 n1 (fun id hid => by
      by_cases hw : id ∈ W
      · exact w1 id hw
      · rw [f1.keep id hw, ft.keep id hw]; exact hh id (List.mem_append.2 (.inl hid)))
    refine ⟨t2, by unfold M.bind; rw [h1]; exact h2, n2, f1.trans f2, fun id hid => ?_⟩
    by_cases hw : id ∈ W'
    · exact w2 id hw
    · rcases List.mem_append.1 hid with hx | hx
      · exact absurd hx hw
      · rw [f2.keep id hw, ft'.keep id hw]; exact w1 id hx
theorem Framed.tag {α : Type} {m : M α} (n : Nat) (hm : Framed m) : Framed (M.tag n m) := by
  exact hm
theorem Framed.getBlk (id : Nat) : Framed (getBlk id) := by
  intro s v s' h
  unfold Abs.getBlk at h
  cases hg : s.heap.get id with
  | none => rw [hg] at h; cases h
  | some b =>
    rw [hg] at h
    cases h
    refine ⟨[id], [], ⟨rfl, rfl, Nat.le_refl _, fun _ _ => rfl⟩, fun t hn hh => ⟨{ t with rl := id :: t.rl }, ?_, hn, ⟨rfl, rfl, Nat.le_refl _, fun _ _ => rfl⟩, fun _ h => by cases h⟩⟩
    unfold Abs.getBlk
    rw [hh id (by simp), hg]
theorem Framed.putBlk (id : Nat) (b : Blk) : Framed (putBlk id b) := by
  intro s v s' h
  rw [putBlk_eq] at h
  cases hb : Nat.blt id bound with
  | false => rw [hb] at h; cases h
  | true =>
    rw [hb] at h
    cases h
    refine ⟨[], [id], ⟨rfl, rfl, Nat.le_refl _, fun i hi => T.get_set_ne _ _ _ _ _ (by simpa using hi)⟩,
      fun t hn hh => ⟨{ t with heap := t.heap.set b 64 id, wl := id :: t.wl }, by rw [putBlk_eq, hb]; rfl, hn, ⟨rfl, rfl, Nat.le_refl _, fun i hi => T.get_set_ne _ _ _ _ _ (by simpa using hi)⟩, fun i hi => ?_⟩⟩
    have : i = id := by simpa using hi
    subst this
    show T.get (T.set _ _ _ _) _ = T.get (T.set _ _ _ _) _
    rw [T.get_set _ _ _ _ hb, T.get_set _ _ _ _ hb]; simp
theorem Framed.newBlk (b : Blk) : Framed (newBlk b) := by
  intro s v s' h
  rw [newBlk_eq] at h
  cases hb : Nat.blt s.next bound with
  | false => rw [hb] at h; cases h
  | true =>
    rw [hb] at h
    cases h
    refine ⟨[], [s.next], ⟨rfl, rfl, Nat.le_succ _, fun i hi => T.get_set_ne _ _ _ _ _ (by simpa using hi)⟩,
      fun t hn hh => ⟨{ t with heap := t.heap.set b 64 s.next, next := s.next + 1, wl := s.next :: t.wl }, by rw [newBlk_eq, hn, hb]; rfl, rfl, ⟨rfl, rfl, by rw [hn]; exact Nat.le_succ _, fun i hi => T.get_set_ne _ _ _ _ _ (by simpa using hi)⟩, fun i hi => ?_⟩⟩
    have : i = s.next := by simpa using hi
    subst this
    show T.get (T.set _ _ _ _) _ = T.get (T.set _ _ _ _) _
    rw [T.get_set _ _ _ _ hb, T.get_set _ _ _ _ hb]; simp
theorem Framed.logged {α : Type} {m : M α} (hm : Framed m) : Framed (M.logged m) := by
  intro s v s' h
  unfold M.logged at h
  cases hr : m { s with rl := [], wl := [] } with
  | err c => rw [hr] at h; cases h
  | ok a s1 =>
    rw [hr] at h
    cases h
    obtain ⟨R, W, ft, ag⟩ := hm _ a s1 hr
    have hR : s1.rl = R := by rw [ft.rl]; simp
    have hW : s1.wl = W := by rw [ft.wl]; simp
    refine ⟨R, W, ⟨by simp [hR], by simp [hW], ft.nx, ft.keep⟩, fun t hn hh => ?_⟩
    obtain ⟨t1, h1, n1, f1, w1⟩ := ag { t with rl := [], wl := [] } hn hh
    have hR1 : t1.rl = R := by rw [f1.rl]; simp
    have hW1 : t1.wl = W := by rw [f1.wl]; simp
    refine ⟨{ t1 with rl := t1.rl ++ t.rl, wl := t1.wl ++ t.wl }, ?_, n1, ⟨by simp [hR1], by simp [hW1], f1.nx, f1.keep⟩, w1⟩
    unfold M.logged
    rw [h1]
    simp only [hR, hW, hR1, hW1]

theorem Framed.ite {α : Type} {c : Bool} {m n : M α} (hm : Framed m) (hn : Framed n) : Framed (bif c then m else n) := by
  cases c
  · exact hn
  · exact hm

/-! ## Everything that the evaluator does is framed -/
theorem framed_tinfo (E : Env) (t : TypeId) : Framed (tinfo E t) := Framed.of _
theorem framed_killAll : ∀ l, Framed (killAll l)
  | [] => Framed.pure _
  | _ :: is => (Framed.putBlk _ _).bind fun _ => framed_killAll is
theorem framed_readAt (id off n : Nat) : Framed (readAt id off n) := (Framed.getBlk _).bind fun b => by cases b <;> first | exact Framed.of _ | exact Framed.fail
theorem framed_readOne (id off : Nat) : Framed (readOne id off) := (Framed.getBlk _).bind fun b => by cases b <;> first | exact Framed.of _ | exact Framed.fail
theorem framed_writeAt (id off : Nat) (vs : List Value) : Framed (writeAt id off vs) := (Framed.getBlk _).bind fun b => by
  try dsimp only
  split
  · exact Framed.ite ((Framed.putBlk _ _).bind fun _ => framed_killAll _) Framed.fail
  · exact Framed.fail
theorem framed_loadA (i : TI) (v : Value) : Framed (loadA i v) := by
  unfold loadA
  split
  · exact Framed.ite ((framed_readAt _ _ _).bind fun _ => Framed.pure _) (framed_readOne _ _)
  · exact Framed.fail
theorem framed_storeA (i : TI) (v x : Value) : Framed (storeA i v x) := by
  unfold storeA
  split
  · split
    · exact Framed.ite ((framed_writeAt _ _ _).bind fun _ => Framed.pure _) Framed.fail
    · exact Framed.fail
  · exact Framed.fail
theorem framed_sliceK (E : Env) (e : TypeId) (id off len cap : Nat) (lo hi mx : Option Value) : Framed (sliceK E e id off len cap lo hi mx) := by
  refine (framed_tinfo _ _).bind fun _ => ?_
  split
  · exact Framed.pure _
  · exact Framed.fail
theorem framed_sliceU (E : Env) (e : TypeId) (id off len : Nat) (lo hi : Option Value) : Framed (sliceU E e id off len lo hi) := by
  unfold sliceU
  refine (framed_tinfo _ _).bind fun ie => (Framed.getBlk _).bind fun b => ?_
  split
  · split
    · exact Framed.ite (Framed.pure _) Framed.fail
    · exact Framed.fail
  · exact Framed.fail
theorem framed_sliceX (E : Env) (e : TypeId) (id off len : Nat) (lo hi mx : Option Value) : Framed (sliceX E e id off len lo hi mx) := by
  unfold sliceX
  refine (framed_tinfo _ _).bind fun ie => ?_
  split
  · exact Framed.pure _
  · exact Framed.fail
theorem framed_sliceN (E : Env) (e : TypeId) (lo hi mx : Option Value) : Framed (sliceN E e lo hi mx) := by
  refine (framed_tinfo _ _).bind fun _ => ?_
  split
  · exact Framed.pure _
  · exact Framed.fail
theorem framed_sliceA (E : Env) (t : TypeId) (x : Value) (lo hi mx : Option Value) : Framed (sliceA E t x lo hi mx) := by
  unfold sliceA
  refine (framed_tinfo _ _).bind fun i => ?_
  split
  · exact framed_sliceK _ _ _ _ _ _ _ _ _
  · exact framed_sliceK _ _ _ _ _ _ _ _ _
  · split
    · exact framed_sliceX _ _ _ _ _ _ _ _
    · exact framed_sliceU _ _ _ _ _ _ _
  · exact framed_sliceN _ _ _ _ _
  · exact Framed.fail
theorem framed_indexAddrA (E : Env) (t : TypeId) (x ix : Value) : Framed (indexAddrA E t x ix) := by
  unfold indexAddrA
  split
  · exact Framed.fail
  · refine (framed_tinfo _ _).bind fun i => ?_
    try dsimp only
    split
    · exact (framed_tinfo _ _).bind fun _ => Framed.ite (Framed.pure _) Framed.fail
    · exact (framed_tinfo _ _).bind fun _ => Framed.ite (Framed.pure _) Framed.fail
    · exact Framed.fail
theorem framed_appGrow (size bytes : Nat) (olds : List Value) (len n : Nat) (xs : List Value) : Framed (appGrow size bytes olds len n xs) :=
  Framed.ite ((Framed.newBlk _).bind fun _ => Framed.pure _) Framed.fail
theorem framed_appKnown (size bytes id off len c n : Nat) (xs : List Value) : Framed (appKnown size bytes id off len c n xs) :=
  Framed.ite (Framed.ite (Framed.pure _) ((framed_writeAt _ _ _).bind fun _ => Framed.pure _)) ((framed_readAt _ _ _).bind fun _ => framed_appGrow _ _ _ _ _ _)
theorem framed_appUnknown (size bytes id off len n : Nat) (xs : List Value) : Framed (appUnknown size bytes id off len n xs) := by
  refine Framed.ite (Framed.pure _) (Framed.ite ((Framed.getBlk _).bind fun b => ?_) Framed.fail)
  split
  · refine Framed.ite (Framed.ite ((framed_writeAt _ _ _).bind fun _ => Framed.pure _) <| Framed.ite ((Framed.putBlk _ _).bind fun _ => (Framed.newBlk _).bind fun _ => Framed.pure _) ((framed_killAll _).bind fun _ => (Framed.newBlk _).bind fun _ => Framed.pure _)) Framed.fail
  · exact Framed.fail
theorem framed_appendA (size bytes : Nat) (s : Value) (n : Nat) (xs : List Value) : Framed (appendA size bytes s n xs) := by
  unfold appendA
  split
  · exact Framed.ite (Framed.pure _) (framed_appGrow _ _ _ _ _ _)
  · exact framed_appKnown _ _ _ _ _ _ _ _
  · exact framed_appUnknown _ _ _ _ _ _ _
  · exact Framed.fail
theorem framed_srcCells (size : Nat) (x : Value) : Framed (srcCells size x) := by
  unfold srcCells
  split
  · exact Framed.pure _
  · exact (framed_readAt _ _ _).bind fun _ => Framed.pure _
  · exact Framed.ite (Framed.pure _) Framed.fail
  · exact Framed.fail
theorem framed_appendB (E : Env) (st xt : TypeId) (s x : Value) : Framed (appendB E st xt s x) := by
  refine (framed_tinfo _ _).bind fun i => (framed_tinfo _ _).bind fun ix => ?_
  split
  · exact Framed.ite ((framed_tinfo _ _).bind fun _ => (framed_srcCells _ _).bind fun _ => framed_appendA _ _ _ _ _)
      (Framed.ite ((framed_tinfo _ _).bind fun _ => (Framed.of _).bind fun _ => Framed.ite (framed_appendA _ _ _ _ _) Framed.fail) Framed.fail)
  · exact Framed.fail
theorem framed_clearB (E : Env) (st : TypeId) (x : Value) : Framed (clearB E st x) := by
  refine (framed_tinfo _ _).bind fun i => ?_
  split
  · refine (framed_tinfo _ _).bind fun i => ?_
    split
    · exact Framed.pure _
    · exact (framed_writeAt _ _ _).bind fun _ => Framed.pure _
    · exact Framed.fail
  · exact Framed.fail
theorem framed_srcTake (size dl : Nat) (x : Value) : Framed (srcTake size dl x) := by
  unfold srcTake
  split
  · exact Framed.pure _
  · exact (framed_readAt _ _ _).bind fun _ => Framed.pure _
  · exact Framed.fail
theorem framed_copyB (E : Env) (st : TypeId) (d x : Value) : Framed (copyB E st d x) := by
  unfold copyB
  split
  · split
    · exact (framed_tinfo _ _).bind fun _ => (framed_srcTake _ _ _).bind fun _ => (framed_writeAt _ _ _).bind fun _ => Framed.pure _
    · exact Framed.fail
  · exact Framed.fail
theorem framed_builtinA (E : Env) (b : Builtin) (ats : List TypeId) (args : List Value) : Framed (builtinA E b ats args) := by
  unfold builtinA
  split
  · split
    · exact Framed.of _
    · exact Framed.fail
  · split
    · exact Framed.of _
    · exact Framed.fail
  · split
    · split
      · exact framed_appendB _ _ _ _ _
      · exact Framed.fail
    · exact Framed.fail
  · split
    · split
      · exact framed_copyB _ _ _ _
      · exact Framed.fail
    · exact Framed.fail
  · split
    · split
      · exact framed_clearB _ _ _
      · exact Framed.fail
    · exact Framed.fail
  · exact Framed.fail
theorem framed_bytesA (E : Env) (src dst : TypeId) (s : ByteArray) : Framed (bytesA E src dst s) := by
  unfold bytesA
  split
  · split
    · split
      · exact (Framed.newBlk _).bind fun _ => Framed.pure _
      · exact Framed.fail
    · exact Framed.fail
  · exact Framed.fail
theorem framed_stringA (E : Env) (src dst : TypeId) (x : Value) : Framed (stringA E src dst x) := by
  unfold stringA
  split
  · split
    · split
      · split
        · exact Framed.pure _
        · exact (framed_readAt _ _ _).bind fun _ => (Framed.of _).bind fun _ => Framed.pure _
        · exact Framed.fail
      · exact Framed.fail
    · exact Framed.fail
  · exact Framed.fail
theorem framed_convM (E : Env) (src dst : TypeId) (x : Value) : Framed (convM E src dst x) := by
  unfold convM
  split
  · exact framed_bytesA _ _ _ _
  · exact framed_stringA _ _ _ _
theorem framed_makeSliceA (E : Env) (t : TypeId) (l c : Nat) : Framed (makeSliceA E t l c) := by
  refine (framed_tinfo _ _).bind fun i => ?_
  split
  · exact (framed_tinfo _ _).bind fun _ => Framed.ite ((Framed.newBlk _).bind fun _ => Framed.pure _) Framed.fail
  · exact Framed.fail
theorem framed_nextA (it : Value) : Framed (nextA it) := by
  unfold nextA
  split
  · refine (Framed.getBlk _).bind fun b => ?_
    split
    · exact Framed.ite ((Framed.putBlk _ _).bind fun _ => Framed.pure _) (Framed.pure _)
    · exact Framed.fail
  · exact Framed.fail

theorem framed_shutLoop (L : Nat) : Framed (shutLoop L) := by
  refine (Framed.getBlk _).bind fun b => ?_
  split
  · exact (Framed.putBlk _ _).bind fun _ => Framed.pure _
  · exact (Framed.putBlk _ _).bind fun _ => Framed.pure _
  · exact Framed.fail

section
variable {E : Env} {call : Cal → List Value → M Value} (hc : ∀ g args, Framed (call g args))
include hc
theorem framed_callA (f : Value) (args : List Value) : Framed (callA E call f args) := by
  unfold callA
  split
  · exact hc _ _
  · dsimp only
    split
    · exact Framed.fail
    · split
      · exact hc _ _
      · refine Framed.ite ?_ Framed.fail
        split
        · exact Framed.ite (Framed.pure _) Framed.fail
        · exact Framed.fail
  · exact Framed.fail
theorem framed_aop (ρ : Operand → Value) (o : Oper) : Framed (aop E call ρ o) := by
  unfold aop
  split
  · exact Framed.pure _
  · exact Framed.pure _
  · split
    · exact Framed.pure _
    · exact Framed.fail
  · exact (framed_tinfo _ _).bind fun _ => (Framed.newBlk _).bind fun _ => Framed.pure _
  · exact (Framed.of _).bind fun _ => (Framed.newBlk _).bind fun _ => Framed.pure _
  · refine (framed_tinfo _ _).bind fun i => ?_
    try dsimp only
    split
    · exact (Framed.of _).bind fun _ => Framed.pure _
    · exact (framed_tinfo _ _).bind fun _ => (Framed.of _).bind fun _ => Framed.pure _
    · exact Framed.fail
  · refine (framed_tinfo _ _).bind fun i => ?_
    try dsimp only
    split
    · exact (framed_tinfo _ _).bind fun _ => (Framed.of _).bind fun _ => Framed.ite ((Framed.newBlk _).bind fun _ => Framed.pure _) Framed.fail
    · exact Framed.fail
  · exact (framed_tinfo _ _).bind fun _ => framed_loadA _ _
  · exact (framed_tinfo _ _).bind fun _ => framed_storeA _ _ _
  · split
    · exact Framed.pure _
    · exact Framed.pure _
    · exact Framed.fail
  · exact Framed.ite (Framed.pure _) Framed.fail
  · refine (framed_tinfo _ _).bind fun i => ?_
    try dsimp only
    split
    · split
      · exact (framed_tinfo _ _).bind fun _ => Framed.ite Framed.fail (Framed.pure _)
      · exact Framed.fail
    · exact Framed.fail
  · refine (framed_tinfo _ _).bind fun i => ?_
    try dsimp only
    split
    · split
      · exact (framed_tinfo _ _).bind fun _ => Framed.of _
      · exact Framed.fail
    · exact Framed.fail
  · exact framed_indexAddrA _ _ _ _
  · split
    · exact Framed.of _
    · exact Framed.fail
  · split
    · exact Framed.pure _
    · split
      · exact Framed.pure _
      · split
        · exact Framed.pure _
        · split
          · exact Framed.pure _
          · exact Framed.of _
  · split
    · exact Framed.of _
    · exact framed_sliceA _ _ _ _ _ _
  · split
    · exact Framed.of _
    · exact Framed.of _
  · split
    · split
      · exact framed_makeSliceA _ _ _ _
      · exact Framed.fail
    · exact Framed.fail
  · split
    · exact Framed.pure _
    · exact framed_convM _ _ _ _
  · split
    · split
      · exact (Framed.newBlk _).bind fun _ => Framed.pure _
      · exact Framed.fail
    · exact Framed.fail
  · exact framed_nextA _
  · split
    · exact framed_callA hc _ _
    · split
      · exact Framed.of _
      · exact Framed.of _
      · exact framed_builtinA _ _ _ _
    · exact Framed.fail
  · exact Framed.fail
  · exact Framed.fail
  · exact Framed.of _
theorem framed_aoper (ops : List Oper) (f : Fr) (o : Oper) : Framed (aoper E call ops f o) := Framed.ite (Framed.tag _ (framed_aop hc _ _)) (Framed.pure _)
theorem framed_aseq (ops : List Oper) : ∀ (l : List Oper) (f : Fr), Framed (aseq E call ops l f)
  | [], _ => Framed.pure _
  | _ :: l, _ => (framed_aoper hc _ _ _).bind fun _ => framed_aseq ops l _
theorem framed_aseqLog (ops : List Oper) : ∀ (l : List Oper) (f : Fr), Framed (aseqLog E call ops l f)
  | [], _ => Framed.pure _
  | _ :: l, _ => (Framed.logged (framed_aoper hc _ _ _)).bind fun _ => (framed_aseqLog ops l _).bind fun _ => Framed.pure _
theorem framed_aregion (ops : Array Oper) (draw : Bool) (f : Fr) : Framed (aregion E call ops draw f) :=
  Framed.ite ((framed_aseqLog hc _ _ _).bind fun _ => Framed.ite (Framed.pure _) Framed.fail) (framed_aseq hc _ _ _)
omit hc in
theorem framed_aloop {body : Fr → M (Ex × Fr)} (hb : ∀ f, Framed (body f)) : ∀ (n : Nat) (f : Fr), Framed (aloop body n f)
  | 0, _ => Framed.fail
  | n + 1, f => (hb f).bind fun ef => by
    split
    · exact framed_aloop hb n _
    · exact Framed.pure _
theorem framed_acode (rd : Bool) (N : Nat) (c : Code) : ∀ f, Framed (acode E call rd N c f) := by
  induction c with
  | skip => exact fun f => Framed.pure _
  | label l => exact fun f => Framed.pure _
  | region id ops draw => exact fun f => (framed_aregion hc _ _ _).bind fun _ => Framed.pure _
  | seq a b iha ihb =>
    exact fun f => (iha f).bind fun ef => by
      split
      · exact ihb _
      · exact Framed.pure _
  | cond c t e iht ihe =>
    intro f
    unfold acode
    split
    · exact Framed.ite (iht f) (ihe f)
    · exact Framed.fail
  | block id b ih =>
    exact fun f => (ih f).bind fun ef => by
      split
      · exact Framed.ite (Framed.pure _) (Framed.pure _)
      · exact Framed.pure _
  | loop b ih => exact fun f => framed_aloop ih _ f
  | scope b ih => exact fun f => Framed.ite Framed.fail (ih f)
  | exit id => exact fun f => Framed.pure _
  | ret => exact fun f => Framed.pure _
  | rangeFunc g ps assign body iha ihb =>
    intro f
    unfold acode
    refine Framed.ite Framed.fail ?_
    split
    · split
      · exact Framed.fail
      · split
        · exact Framed.fail
        · exact (Framed.newBlk _).bind fun _ => (Framed.newBlk _).bind fun _ => (hc _ _).bind fun _ => (framed_shutLoop _).bind fun _ => Framed.pure _
    · exact Framed.fail
  | _ => exact fun f => Framed.fail
end
theorem framed_aresult (E : Env) (f : Fr) (r : ResultVar) : Framed (aresult E f r) := by
  cases r
  · exact Framed.pure _
  · exact (framed_tinfo _ _).bind fun _ => framed_loadA _ _
theorem framed_aresults (E : Env) (f : Fr) : ∀ l, Framed (aresults E f l)
  | [] => Framed.pure _
  | _ :: l => (framed_aresult _ _ _).bind fun _ => (framed_aresults E f l).bind fun _ => Framed.pure _
theorem framed_packA (vs : List Value) : Framed (packA vs) := by
  unfold packA
  split
  · exact Framed.pure _
  · exact Framed.ite (Framed.pure _) Framed.fail
theorem framed_takeAll : ∀ l, Framed (takeAll l)
  | [] => Framed.pure _
  | D :: l => (Framed.getBlk _).bind fun b => by
    split
    · exact (Framed.putBlk _ _).bind fun _ => framed_takeAll l
    · exact Framed.fail
theorem framed_beginRound (id : Nat) : Framed (beginRound id) := by
  refine (Framed.getBlk _).bind fun b => ?_
  split
  · exact Framed.putBlk _ _
  · exact Framed.fail
theorem framed_endRound (id : Nat) (x : Ex) : Framed (endRound id x) := by
  refine (Framed.getBlk _).bind fun b => ?_
  split
  · split
    · exact (Framed.putBlk _ _).bind fun _ => Framed.pure _
    · exact (Framed.putBlk _ _).bind fun _ => Framed.pure _
  · exact Framed.fail
theorem framed_around {E : Env} {call : Cal → List Value → M Value} (hc : ∀ g args, Framed (call g args)) (N : Nat) (id : Nat) (args : List Value) : Framed (around E call N id args) := by
  refine (Framed.getBlk _).bind fun b => ?_
  split
  · refine Framed.ite ((framed_acode hc _ N _ _).bind fun ef => ?_) Framed.fail
    split
    · exact (framed_beginRound _).bind fun _ => (framed_acode hc _ N _ _).bind fun _ => framed_endRound _ _
    · exact Framed.fail
  · exact Framed.fail
theorem framed_acall {E : Env} (ho : ∀ g h, E.orc g = some h → ∀ args, Framed (h args)) (N : Nat) : ∀ (n : Nat) (g : Cal) (args : List Value), Framed (acall E N n g args)
  | 0, _, _ => Framed.fail
  | n + 1, .yl id, args => Framed.tag _ (framed_around (framed_acall ho N n) N id args)
  | n + 1, .fn g, args => Framed.tag _ (by
    split
    · rename_i h he
      exact ho g h he args
    · split
      · exact Framed.fail
      · split
        · exact Framed.fail
        · refine Framed.ite ((framed_acode (framed_acall ho N n) _ N _ _).bind fun ef => ?_) Framed.fail
          split
          · exact Framed.fail
          · exact (framed_takeAll _).bind fun _ => (framed_aresults _ _ _).bind fun _ => framed_packA _)
end Go.Abs

/- Each operation of the evaluator does what the model's operation does. -/
import Derived.Test.YtffgakphodjbjaaGreatDoorRotRel
set_option linter.unusedVariables false
set_option linter.unusedSimpArgs false
namespace Go.Abs
open Go.RowKit

/-! ## What a step of the evaluator was -/
theorem bind_ok {α β : Type} {m : M α} {f : α → M β} {s s' : St} {v : β} (h : m.bind f s = .ok v s') : ∃ a s1, m s = .ok a s1 ∧ f a s1 = .ok v s' := by
  unfold M.bind at h
  cases hr : m s with
  | err c => rw [hr] at h; cases h
  | ok a s1 => rw [hr] at h; exact ⟨a, s1, rfl, h⟩
theorem pure_ok {α : Type} {a v : α} {s s' : St} (h : M.pure a s = .ok v s') : v = a ∧ s' = s := by cases h; exact ⟨rfl, rfl⟩
theorem fail_ok {α : Type} {v : α} {s s' : St} (h : (M.fail : M α) s = .ok v s') : False := by cases h
theorem of_ok {α : Type} {o : Option α} {v : α} {s s' : St} (h : M.of o s = .ok v s') : o = some v ∧ s' = s := by
  cases o with
  | none => cases h
  | some a => cases h; exact ⟨rfl, rfl⟩
theorem cond_ok {α : Type} {c : Bool} {m : M α} {v : α} {s s' : St} (h : (bif c then m else M.fail) s = .ok v s') : c = true ∧ m s = .ok v s' := by
  cases c with
  | false => cases h
  | true => exact ⟨rfl, h⟩
theorem getBlk_ok {id : Nat} {b : Blk} {s s' : St} (h : getBlk id s = .ok b s') : s.heap.get id = some b ∧ s'.heap = s.heap ∧ s'.next = s.next := by
  unfold getBlk at h
  cases hg : s.heap.get id with
  | none => rw [hg] at h; cases h
  | some b' => rw [hg] at h; cases h; exact ⟨rfl, rfl, rfl⟩
theorem putBlk_ok {id : Nat} {b : Blk} {s s' : St} {u : Unit} (h : putBlk id b s = .ok u s') : Nat.blt id bound = true ∧ s'.heap = s.heap.set b 64 id ∧ s'.next = s.next := by
  rw [putBlk_eq] at h
  cases hb : Nat.blt id bound with
  | false => rw [hb] at h; cases h
  | true => rw [hb] at h; cases h; exact ⟨rfl, rfl, rfl⟩
theorem newBlk_ok {b : Blk} {s s' : St} {v : Nat} (h : newBlk b s = .ok v s') : v = s.next ∧ Nat.blt s.next bound = true ∧ s'.heap = s.heap.set b 64 s.next ∧ s'.next = s.next + 1 := by
  rw [newBlk_eq] at h
  cases hb : Nat.blt s.next bound with
  | false => rw [hb] at h; cases h
  | true => rw [hb] at h; cases h; exact ⟨rfl, rfl, rfl, rfl⟩
theorem killAll_ok : ∀ (l : List Nat) {s s' : St} {u : Unit}, killAll l s = .ok u s' → s'.next = s.next ∧ ∀ x, s'.heap.get x = if x ∈ l then some .dead else s.heap.get x
  | [], s, s', u, h => by cases h; exact ⟨rfl, fun x => by simp⟩
  | i :: is, s, s', u, h => by
    obtain ⟨_, s1, h1, h2⟩ := bind_ok h
    obtain ⟨hb, he, hn⟩ := putBlk_ok h1
    obtain ⟨n2, g2⟩ := killAll_ok is h2
    refine ⟨n2.trans hn, fun x => ?_⟩
    rw [g2 x, he, T.get_set _ _ _ _ hb]
    by_cases e : x ∈ is
    · simp [e]
    · by_cases e' : x = i <;> simp [e, e']
theorem readAt_ok {id off n : Nat} {c : List Value} {s s' : St} (h : readAt id off n s = .ok c s') :
    ∃ cs es own old par, s.heap.get id = some (.cells cs es own old par) ∧ window cs off n = some c ∧ s'.heap = s.heap ∧ s'.next = s.next := by
  obtain ⟨b, s1, h1, h2⟩ := bind_ok h
  obtain ⟨hg, he, hn⟩ := getBlk_ok h1
  cases b with
  | cells cs es own old par =>
    obtain ⟨hw, rfl⟩ := of_ok h2
    exact ⟨cs, es, own, old, par, hg, hw, he, hn⟩
  | _ => cases h2
theorem readOne_ok {id off : Nat} {c : Value} {s s' : St} (h : readOne id off s = .ok c s') :
    ∃ cs es own old par, s.heap.get id = some (.cells cs es own old par) ∧ cs[off]? = some c ∧ s'.heap = s.heap ∧ s'.next = s.next := by
  obtain ⟨b, s1, h1, h2⟩ := bind_ok h
  obtain ⟨hg, he, hn⟩ := getBlk_ok h1
  cases b with
  | cells cs es own old par =>
    obtain ⟨hw, rfl⟩ := of_ok h2
    exact ⟨cs, es, own, old, par, hg, hw, he, hn⟩
  | _ => cases h2
theorem window_ok {c xs : List Value} {off n : Nat} (h : window c off n = some xs) : off + n ≤ c.length ∧ xs = (c.drop off).take n ∧ xs.length = n := by
  unfold window at h
  cases hb : Nat.ble (off + n) c.length with
  | false => rw [hb] at h; cases h
  | true =>
    rw [hb] at h
    cases h
    have := Nat.le_of_ble_eq_true hb
    refine ⟨this, rfl, ?_⟩
    simp
    omega

/-! ## The tables -/
structure EnvOk (E : Env) (G : Nat) : Prop where
  types : ∀ t i, E.types.get t = some i → E.P.info? t = some i
  zeros : ∀ t i z, E.types.get t = some i → i.zero = some z → (vcells z).length = i.size ∧ (vcells z).all plain1 = true
  fields : ∀ t i fs, E.types.get t = some i → underOf E.types i.desc = some (.struct fs) → ∀ f, f ∈ fs.toList → ∃ j, E.types.get f.type = some j
  funcs : ∀ g f, E.funcs.get g = some f → E.P.funcs[g]? = some f ∧ (f.name == "runtime.NumGoroutine") = false

theorem vcells_eq (v : Value) : vcells v = v.cells.toList := by cases v <;> rfl

structure TiOk (P : Program) (t : TypeId) (i : TI) (info : TypeInfo) (z : Value) : Prop where
  inf : P.info? t = some info
  zero : info.zero = some z
  size : i.size = info.size
  bytes : i.bytes = info.bytes
  zcells : i.zero = vcells z
  under : P.underlying t = some i.under
  agg : i.isAgg = aggDesc i.under
  zlen : i.zero.length = i.size
  zplain : i.zero.all plain1 = true

theorem tiOf_ok {E : Env} {G : Nat} (ok : EnvOk E G) {t : TypeId} {i : TI} (h : tiOf E.types t = some i) : ∃ info z, TiOk E.P t i info z := by
  unfold tiOf at h
  cases hg : E.types.get t with
  | none => rw [hg] at h; cases h
  | some j =>
    rw [hg] at h
    dsimp only at h
    split at h
    · rename_i d z hd hz
      cases h
      have hj := ok.types t j hg
      obtain ⟨h1, h2⟩ := ok.zeros t j z hg hz
      refine ⟨j, z, hj, hz, rfl, rfl, rfl, ?_, rfl, h1, h2⟩
      show E.P.underlying t = some d
      unfold Program.underlying
      rw [hj]
      unfold underOf at hd
      split at hd
      · rename_i nm u hu
        cases hk : E.types.get u with
        | none => rw [hk] at hd; cases hd
        | some k =>
          rw [hk] at hd
          cases hd
          have := ok.types u k hk
          obtain ⟨desc, str, size, bytes, hp, al, fa, ze, co, me⟩ := j
          simp only at hu
          subst hu
          simp [this]
      · rename_i hne
        cases hd
        obtain ⟨desc, str, size, bytes, hp, al, fa, ze, co, me⟩ := j
        cases desc <;> first | rfl | exact absurd rfl (hne _ _)
    · cases h

theorem tinfo_ok {E : Env} {G : Nat} (ok : EnvOk E G) {t : TypeId} {i : TI} {s s' : St} (h : tinfo E t s = .ok i s') : s' = s ∧ ∃ info z, TiOk E.P t i info z := by
  obtain ⟨h1, h2⟩ := of_ok h
  exact ⟨h2, tiOf_ok ok h1⟩

section runs
variable {P : Program} {t : TypeId} {i : TI} {info : TypeInfo} {z : Value} (T : TiOk P t i info z) (w : World)
include T
theorem TiOk.run_size : (sizeOf t).run P w = .ok i.size w := by simp [sizeOf, typeInfo, T.inf, T.size]
theorem TiOk.run_under : (underlying t).run P w = .ok i.under w := by simp [underlying, T.under]
theorem TiOk.run_zero : (zeroValue t).run P w = .ok z w := by simp [zeroValue, typeInfo, T.inf, T.zero]
theorem TiOk.run_agg : (isAgg t).run P w = .ok i.isAgg w := by
  rw [T.agg]
  simp only [isAgg, Sem.run_bind, T.run_under, Result.andThen_ok]
  cases i.under <;> rfl
end runs

/-- What an operation on values has to give. -/
def Gives (G B : Nat) (w0 : World) (ρ : Ren) (s s' : St) (v : Value) (r : Result Value) : Prop :=
  ∃ v' w' ρ', r = .ok v' w' ∧ Ext ρ ρ' s.next s'.next ∧ Rel G B w0 ρ' s'.heap w' ∧ VR ρ' v v'

section
variable {E : Env} {G B : Nat} {w0 w : World} {ρ : Ren} {s s' : St}

theorem Gives.same (r : Rel G B w0 ρ s.heap w) {v v' : Value} {res : Result Value} (hr : res = .ok v' w) (hh : s'.heap = s.heap) (hv : VR ρ v v') : Gives G B w0 ρ s s' v res :=
  ⟨v', w, ρ, hr, Ext.refl _ _ _, by rw [hh]; exact r, hv⟩

/-! ## Reading -/
theorem Rel.reads (r : Rel G B w0 ρ s.heap w) {id : Nat} {c : List Value} {es : Nat} {own old : Bool} {par : List Nat} (hb : s.heap.get id = some (.cells c es own old par)) {l : Pl} (hl : ρ id = some l)
    {off n : Nat} {xs : List Value} (hw : window c off n = some xs) : ∃ ys, All2 (V1 ρ) xs ys ∧ ys.length = n ∧ ∀ j v, ys[j]? = some v → w.cell? ⟨l.k, l.d + off + j, none⟩ = some v := by
  obtain ⟨hle, rfl, hlen⟩ := window_ok hw
  obtain ⟨l', cr⟩ := r.blk id _ hb
  have : l' = l := by have := cr.at_; rw [hl] at this; cases this; rfl
  subst this
  refine ⟨(List.range n).map fun j => (w.cell? ⟨l'.k, l'.d + off + j, none⟩).getD undef, All2.of_get (by simpa using hlen) fun i a b ha hb' => ?_, by simp, fun j v hj => ?_⟩
  · have hi : i < n := by
      have := (List.getElem?_eq_some_iff.1 ha).1
      omega
    have hc : c[off + i]? = some a := by
      rw [List.getElem?_take_of_lt hi, List.getElem?_drop] at ha
      exact ha
    obtain ⟨v', h1, h2⟩ := cr.val _ _ hc
    rw [List.getElem?_map, List.getElem?_range hi] at hb'
    simp only [Option.map_some, Option.some.injEq] at hb'
    rw [show l'.d + off + i = l'.d + (off + i) by omega, h1] at hb'
    simp at hb'
    rw [← hb']
    exact h2
  · have hi : j < n := by
      have := (List.getElem?_eq_some_iff.1 hj).1
      simpa using this
    rw [List.getElem?_map, List.getElem?_range hi] at hj
    simp only [Option.map_some, Option.some.injEq] at hj
    have : ∃ a, c[off + j]? = some a := ⟨c[off + j]'(by omega), List.getElem?_eq_getElem _⟩
    obtain ⟨a, ha⟩ := this
    obtain ⟨v', h1, h2⟩ := cr.val _ _ ha
    rw [show l'.d + off + j = l'.d + (off + j) by omega] at hj ⊢
    rw [h1] at hj ⊢
    simpa using hj

theorem addr_add (b o n : Nat) : (⟨b, o, none⟩ : Addr).add n = ⟨b, o + n, none⟩ := by unfold Addr.add; split <;> simp_all

theorem run_loadCells_at (P : Program) (w : World) (b o : Nat) (ys : List Value) (h : ∀ j v, ys[j]? = some v → w.cell? ⟨b, o + j, none⟩ = some v) : (loadCells ⟨b, o, none⟩ ys.length).run P w = .ok ⟨ys⟩ w :=
  run_loadCells_list w ⟨b, o, none⟩ ys (fun j v hj => by rw [addr_add]; exact h j v hj)

theorem load_gives (ok : EnvOk E G) {t : TypeId} {i : TI} {info : TypeInfo} {z : Value} (T : TiOk E.P t i info z) (r : Rel G B w0 ρ s.heap w) {x x' v : Value} (hx : VR ρ x x') (h : loadA i x s = .ok v s') :
    Gives G B w0 ρ s s' v ((Instr.loadAt t x').run E.P w) := by
  unfold loadA at h
  split at h
  · rename_i id off
    obtain ⟨l, hl, rfl⟩ := hx.ptr
    cases hag : i.isAgg with
    | true =>
      rw [hag] at h
      obtain ⟨c, s1, h1, h2⟩ := bind_ok (show M.bind _ _ s = _ from h)
      obtain ⟨cs, es, own, old, par, hg, hw, he, hn⟩ := readAt_ok h1
      obtain ⟨rfl, rfl⟩ := pure_ok h2
      obtain ⟨ys, ha, hlen, hc⟩ := r.reads hg hl hw
      refine Gives.same r (v' := .agg ⟨ys⟩) ?_ he (.base (.agg ha))
      have := run_loadCells_at E.P w l.k (l.d + off) ys hc
      rw [hlen] at this
      simp [Instr.loadAt, Instr.sureAddr, loadVar, T.run_agg, hag, T.run_size, this]
    | false =>
      rw [hag] at h
      obtain ⟨cs, es, own, old, par, hg, hw, he, hn⟩ := readOne_ok (show readOne id off s = _ from h)
      obtain ⟨l', cr⟩ := r.blk id _ hg
      have : l' = l := by have := cr.at_; rw [hl] at this; cases this; rfl
      subst this
      obtain ⟨v', h1, h2⟩ := cr.val _ _ hw
      refine Gives.same r (v' := v') ?_ he (VR.of1 h2)
      simp [Instr.loadAt, Instr.sureAddr, loadVar, T.run_agg, hag, h1]
  · cases h

/-! ## Values that may lie in memory -/
theorem flat_ok {v v' : Value} {c : List Value} (hv : VR ρ v v') (h : flat? v = some c) : All2 (V1 ρ) c v'.cells.toList := by
  have h2 : V2 ρ v v' := hv.to2 (by rintro vs rfl; cases h)
  have := h2.cells
  have e : c = vcells v := by cases v <;> first | (cases h; rfl) | cases h
  rw [e]
  exact this
theorem all2_oneCell {as bs : List Value} (h : All2 (V1 ρ) as bs) : ∀ v, v ∈ bs → v.oneCell' = true := by
  induction h with
  | nil => intro v hv; cases hv
  | cons h _ ih =>
    intro v hv
    rcases List.mem_cons.1 hv with rfl | hv
    · exact h.oneCell.1
    · exact ih v hv

/-! ## Writing -/
theorem writeAt_gives (r : Rel G B w0 ρ s.heap w) {id off : Nat} {vs vs' : List Value} {l : Pl} (hl : ρ id = some l) (hv : All2 (V1 ρ) vs vs') {u : Unit} (h : writeAt id off vs s = .ok u s') :
    s'.next = s.next ∧ Rel G B w0 ρ s'.heap (w.setCells l.k (l.d + off) vs') ∧ (storeCells ⟨l.k, l.d + off, none⟩ vs').run E.P w = .ok () (w.setCells l.k (l.d + off) vs')
      ∧ (∀ j, j < vs'.length → (w.cell? ⟨l.k, l.d + off + j, none⟩).isSome = true) ∧ ∀ j, j < vs'.length → w.frozen? ⟨l.k, l.d + off + j, none⟩ = false := by
  obtain ⟨b, s1, h1, h2⟩ := bind_ok h
  obtain ⟨hg, he, hn⟩ := getBlk_ok h1
  split at h2
  · rename_i c es par
    obtain ⟨hc, h3⟩ := cond_ok h2
    have hle : off + vs.length ≤ c.length := Nat.le_of_ble_eq_true hc
    obtain ⟨_, s2, h4, h5⟩ := bind_ok h3
    obtain ⟨hb, he2, hn2⟩ := putBlk_ok h4
    obtain ⟨hn3, hk⟩ := killAll_ok _ h5
    obtain ⟨l', cr⟩ := r.blk id _ hg
    have : l' = l := by have := cr.at_; rw [hl] at this; cases this; rfl
    subst this
    have hlen := hv.length
    have hget : ∀ x, s2.heap.get x = if x = id then some (.cells (splice c off vs) es true false []) else s.heap.get x := fun x => by rw [he2, T.get_set _ _ _ _ hb, he]
    have hth : ∀ j, j < vs'.length → (w.cell? ⟨l'.k, l'.d + off + j, none⟩).isSome = true := fun j hj => cr.there _ (.inr (by omega))
    have hfr : ∀ j, j < vs'.length → w.frozen? ⟨l'.k, l'.d + off + j, none⟩ = false := fun j hj => cr.free rfl _ (.inr (by omega))
    refine ⟨by rw [hn3, hn2, hn], r.write hg hl off hv hle ?_ (fun x hx hp => ?_) (fun x hx hp => ?_), ?_, hth, hfr⟩
    · rw [hk, hget]
      by_cases hp : id ∈ par <;> simp [hp]
    · rw [hk, if_pos hp]
    · rw [hk, if_neg hp, hget, if_neg hx]
    · have := run_storeCells_cells (P := E.P) l'.k (l'.d + off) vs' 0 w (by simpa using hth) (by simpa using hfr) (all2_oneCell hv)
      simpa using this
  · cases h2

theorem store_gives (ok : EnvOk E G) {t : TypeId} {i : TI} {info : TypeInfo} {z : Value} (T : TiOk E.P t i info z) (r : Rel G B w0 ρ s.heap w) {a a' x x' v : Value} (ha : VR ρ a a') (hx : VR ρ x x') (h : storeA i a x s = .ok v s') :
    ∃ w', (Instr.storeAt t a' x').run E.P w = .ok () w' ∧ v = undef ∧ s'.next = s.next ∧ Rel G B w0 ρ s'.heap w' := by
  unfold storeA at h
  split at h
  · rename_i id off
    obtain ⟨l, hl, rfl⟩ := ha.ptr
    cases hf : flat? x with
    | none => rw [hf] at h; cases h
    | some c =>
      rw [hf] at h
      obtain ⟨hc, h1⟩ := cond_ok h
      obtain ⟨u, s1, h2, h3⟩ := bind_ok h1
      obtain ⟨rfl, rfl⟩ := pure_ok h3
      have hall := flat_ok hx hf
      obtain ⟨hn, r', hrun, _, _⟩ := writeAt_gives (E := E) r hl hall h2
      refine ⟨_, ?_, rfl, hn, r'⟩
      have hsz : x'.cells.size = i.size := by
        have := hall.length
        have hc' := Nat.eq_of_beq_eq_true hc
        have e : x'.cells.toList.length = x'.cells.size := by simp
        omega
      simp [Instr.storeAt, Instr.sureAddr, storeVar, T.run_size, hsz, hrun]
  · cases h

/-! ## Making -/
/-- A new block of cells. -/
theorem Rel.made (r : Rel G B w0 ρ s.heap w) (hG : G ≤ s.next) (hfr : ρ s.next = none) (hb : Nat.blt s.next bound = true) {c c' : List Value} (hc : All2 (V1 ρ) c c') (es fin : Nat) (par : List Nat) (rest : List Value) (t : TypeId) (fz : Nat × Nat)
    (hfz : ∀ j, j < (c' ++ rest).length → ¬ (fz.1 ≤ j ∧ j < fz.2)) (hfin : fin ≤ (c' ++ rest).length) (hfits : c.length ≤ fin) :
    Rel G B w0 (fun x => if x = s.next then some ⟨w.heap.size, 0, fin, es⟩ else ρ x) (s.heap.set (.cells c es true false par) 64 s.next) (w.alloc (.cells ⟨c' ++ rest⟩ t fz)) := by
  have hs : Sub ρ (fun x => if x = s.next then some ⟨w.heap.size, 0, fin, es⟩ else ρ x) := fun x y hx => by
    dsimp only
    rw [if_neg (by rintro rfl; rw [hfr] at hx; cases hx)]
    exact hx
  have hlen := hc.length
  have hheap : (w.alloc (.cells ⟨c' ++ rest⟩ t fz)).heap[w.heap.size]? = some (.cells ⟨c' ++ rest⟩ t fz) := by
    show (w.heap.push _)[w.heap.size]? = _
    simp
  have hcell : ∀ j, (w.alloc (.cells ⟨c' ++ rest⟩ t fz)).cell? ⟨w.heap.size, j, none⟩ = (c' ++ rest)[j]? := fun j => by
    unfold World.cell?
    dsimp only
    rw [hheap]
    simp
  refine r.new hb hG hfr _ _ _ rfl ⟨⟨w.heap.size, 0, fin, es⟩, by simp, rfl, fun _ => r.size, by rw [size_alloc']; exact Nat.lt_succ_self _, ⟨_, _, _, hheap⟩, fun j hj => ?_, fun _ j hj => ?_, fun i v hv => ?_, by dsimp only; omega⟩
  · dsimp only at hj ⊢
    rw [hcell]
    have : j < (c' ++ rest).length := by
      rcases hj with hj | hj
      · omega
      · rw [List.length_append]; omega
    rw [List.getElem?_eq_getElem this]; rfl
  · dsimp only at hj ⊢
    have : j < (c' ++ rest).length := by
      rcases hj with hj | hj
      · omega
      · rw [List.length_append]; omega
    unfold World.frozen?
    dsimp only
    rw [hheap]
    have h' := hfz j this
    obtain ⟨lo, hi⟩ := fz
    simp only [Bool.and_eq_false_iff, decide_eq_false_iff_not]
    by_cases e : lo ≤ j
    · exact .inr fun e' => h' ⟨e, e'⟩
    · exact .inl e
  · obtain ⟨v', h1, h2⟩ := hc.get i v hv
    refine ⟨v', ?_, h2.mono hs⟩
    dsimp only
    rw [Nat.zero_add, hcell, List.getElem?_append_left (List.getElem?_eq_some_iff.1 h1).1]
    exact h1

theorem Ext.one {l : Pl} {n n' : Nat} (hf : ρ n = none) (hn : n' = n + 1) : Ext ρ (fun x => if x = n then some l else ρ x) n n' := fun id => by
  by_cases e : id = n
  · subst e; exact .inr ⟨hf, Nat.le_refl _, by omega⟩
  · exact .inl (by simp [e])

theorem all2_plain {l : List Value} (h : l.all plain1 = true) : All2 (V1 ρ) l l := All2.refl_of l fun a ha => V1.of_plain (List.all_eq_true.1 h a ha)

theorem alloc_gives (ok : EnvOk E G) {t : TypeId} {i : TI} {info : TypeInfo} {z : Value} (T : TiOk E.P t i info z) (r : Rel G B w0 ρ s.heap w) (hG : G ≤ s.next) (hf : Fresh ρ s.next s'.next) {v : Value}
    (h : ((newBlk (.cells i.zero i.size true false [])).bind fun id => M.pure (.pointer (some ⟨id, 0, none⟩))) s = .ok v s') :
    Gives G B w0 ρ s s' v ((Instr.alloc t true (.tuple #[])).run E.P w) := by
  obtain ⟨id, s1, h1, h2⟩ := bind_ok h
  obtain ⟨rfl, rfl⟩ := pure_ok h2
  obtain ⟨rfl, hb, he, hn⟩ := newBlk_ok h1
  have hfr := hf s.next (Nat.le_refl _) (by omega)
  have r' := r.made hG hfr hb (all2_plain (ρ := ρ) T.zplain) i.size i.size [] [] t (0, 0) (by simp) (by simp [T.zlen]) (by simp [T.zlen])
  refine ⟨.pointer (some ⟨w.heap.size, 0, none⟩), _, _, ?_, Ext.one hfr hn, by rw [he]; exact r', VR.of0 (.ptr (l := ⟨w.heap.size, 0, i.size, i.size⟩) (by simp))⟩
  have e : z.cells = ⟨i.zero ++ []⟩ := by rw [T.zcells, vcells_eq]; simp
  simp only [Instr.alloc, Sem.run_bind, T.run_zero, Result.andThen_ok, newVar, newRow, Sem.run_pure, run_newObj]
  rw [e]
  rfl

theorem box_gives (r : Rel G B w0 ρ s.heap w) (hG : G ≤ s.next) (hf : Fresh ρ s.next s'.next) {t : TypeId} {x x' v : Value} (hx : VR ρ x x')
    (h : ((M.of (flat? x)).bind fun c => (newBlk (.cells c 0 true false [])).bind fun id => M.pure (.pointer (some ⟨id, 0, none⟩))) s = .ok v s') :
    Gives G B w0 ρ s s' v ((Instr.box t x').run E.P w) := by
  obtain ⟨c, s0, h0, h'⟩ := bind_ok h
  obtain ⟨hc, e0⟩ := of_ok h0
  rw [e0] at h'
  obtain ⟨id, s1, h1, h2⟩ := bind_ok h'
  obtain ⟨rfl, rfl⟩ := pure_ok h2
  obtain ⟨rfl, hb, he, hn⟩ := newBlk_ok h1
  have hfr := hf s.next (Nat.le_refl _) (by omega)
  have r' := r.made hG hfr hb (flat_ok hx hc) 0 c.length [] [] t (0, 0) (by simp) (by simp [(flat_ok hx hc).length]) (Nat.le_refl _)
  simp only [List.append_nil] at r'
  refine ⟨.pointer (some ⟨w.heap.size, 0, none⟩), _, _, ?_, Ext.one hfr hn, by rw [he]; exact r', VR.of0 (.ptr (l := ⟨w.heap.size, 0, c.length, 0⟩) (by simp))⟩
  simp only [Instr.box, Sem.run_bind, Result.andThen_ok, newVar, newRow, Sem.run_pure, run_newObj]
  rfl

/-! ## Parts put together -/
theorem foldl_splice (off : Nat) : ∀ (vs : List Value) (k : Nat) (cells : Array Value), off + k + vs.length ≤ cells.size →
    ((vs.zipIdx k).foldl (fun (cs : Array Value) (x : Value × Nat) => cs.setIfInBounds (off + x.2) x.1) cells).toList = splice cells.toList (off + k) vs
  | [], k, cells, _ => by cases h : cells.toList <;> simp [splice, h]
  | v :: vs, k, cells, h => by
    simp only [List.zipIdx_cons, List.foldl_cons]
    rw [foldl_splice off vs (k + 1) _ (by simp at h ⊢; omega)]
    apply List.ext_getElem?
    intro i
    have hl : off + k < cells.toList.length := by simp at h ⊢; omega
    by_cases h1 : i < off + k
    · rw [splice_out _ _ _ _ (.inl (by omega)), splice_out _ _ _ _ (.inl h1)]
      simp [List.getElem?_set]
      omega
    · by_cases h2 : i = off + k
      · subst h2
        rw [splice_out _ _ _ _ (.inl (by omega))]
        have := splice_in cells.toList (off + k) (v :: vs) 0 (by simp) (by simp at h ⊢; omega)
        rw [Nat.add_zero] at this
        rw [this]
        simp at hl
        simp [hl]
      · by_cases h3 : i < off + k + 1 + vs.length
        · obtain ⟨j, rfl⟩ : ∃ j, i = off + (k + 1) + j := ⟨i - (off + (k + 1)), by omega⟩
          rw [splice_in _ _ _ _ (by omega) (by simp at h ⊢; omega)]
          rw [show off + (k + 1) + j = off + k + (j + 1) by omega, splice_in _ _ _ _ (by simp; omega) (by simp at h ⊢; omega)]
          simp
        · rw [splice_out _ _ _ _ (.inr (by omega)), splice_out _ _ _ _ (.inr (by simp; omega))]
          simp [List.getElem?_set]
          omega

theorem splice_all2 {R : Value → Value → Prop} : ∀ {c c' : List Value} (o : Nat) {vs vs' : List Value}, All2 R c c' → All2 R vs vs' → All2 R (splice c o vs) (splice c' o vs')
  | _, _, _, _, _, .nil, .nil => .nil
  | _, _, _, _, _, .cons h t, .nil => .cons h t
  | _, _, _, _, _, .nil, .cons _ _ => .nil
  | _, _, 0, _, _, .cons h t, .cons h' t' => .cons h' (splice_all2 0 t t')
  | _, _, o + 1, _, _, .cons h t, .cons h' t' => .cons h (splice_all2 o t (.cons h' t'))

inductive Parts (ρ : Ren) : List (Nat × Value) → List (Nat × Value) → Prop where
  | nil : Parts ρ [] []
  | cons {k : Nat} {v v' : Value} {l l' : List (Nat × Value)} (h : VR ρ v v') (t : Parts ρ l l') : Parts ρ ((k, v) :: l) ((k, v') :: l')

theorem fill_ok {place place' : Nat → Option (Nat × Nat)} (hpl : ∀ k p, place k = some p → place' k = some p) : ∀ {ps ps' : List (Nat × Value)} {c d : List Value} {c' : Array Value}, Parts ρ ps ps' → All2 (V1 ρ) c c'.toList → fillA place ps c = some d →
    ∃ d', Instr.fill place' c' ps' = some d' ∧ All2 (V1 ρ) d d'.toList
  | _, _, c, d, c', .nil, hc, h => by cases h; exact ⟨c', rfl, hc⟩
  | _, _, c, d, c', .cons (k := k) (v := v) (v' := v') hv ht, hc, h => by
    unfold fillA at h
    unfold Instr.fill
    cases hp : place k with
    | none => rw [hp] at h; cases h
    | some p =>
      obtain ⟨off, size⟩ := p
      rw [hp] at h
      rw [hpl k _ hp]
      dsimp only at h ⊢
      cases hf : flat? v with
      | none => rw [hf] at h; cases h
      | some vs =>
        rw [hf] at h
        dsimp only at h
        have hall := flat_ok hv hf
        have hl1 := hall.length
        have hl2 := hc.length
        cases hb : (Nat.beq vs.length size && Nat.ble (off + size) c.length) with
        | false => rw [hb] at h; cases h
        | true =>
          rw [hb] at h
          simp only [Bool.and_eq_true] at hb
          have e1 := Nat.eq_of_beq_eq_true hb.1
          have e2 := Nat.le_of_ble_eq_true hb.2
          have e3 : v'.cells.toList.length = v'.cells.size := by simp
          have e4 : c'.toList.length = c'.size := by simp
          have hne : ¬ ((decide (v'.cells.size ≠ size) || decide (off + v'.cells.size > c'.size)) = true) := by
            simp
            constructor <;> omega
          rw [if_neg hne]
          refine fill_ok hpl ht ?_ h
          have := foldl_splice off v'.cells.toList 0 c' (by omega)
          rw [← Array.foldl_toList, Array.toList_zipIdx, this, Nat.add_zero]
          exact splice_all2 off hc hall

theorem tiOf_fields (ok : EnvOk E G) {t : TypeId} {i : TI} (h : tiOf E.types t = some i) {fs : Array Field} (hu : i.under = .struct fs) : ∀ f, f ∈ fs.toList → ∃ j, E.types.get f.type = some j := by
  unfold tiOf at h
  cases hg : E.types.get t with
  | none => rw [hg] at h; cases h
  | some j =>
    rw [hg] at h
    dsimp only at h
    split at h
    · rename_i d z hd hz
      cases h
      dsimp only at hu
      subst hu
      exact ok.fields t j fs hg hd
    · cases h

theorem places_ok (ok : EnvOk E G) : ∀ (fs : List Field), (∀ f, f ∈ fs → ∃ j, E.types.get f.type = some j) →
    ∃ places, fs.mapM (fun f => (E.P.info? f.type).map fun i => (f.offset, i.size)) = some places ∧ ∀ (k : Nat) (f : Field) (j : TI), fs[k]? = some f → tiOf E.types f.type = some j → places[k]? = some (f.offset, j.size)
  | [], _ => ⟨[], by simp, fun k f j hk => by simp at hk⟩
  | f :: fs, h => by
    obtain ⟨j, hj⟩ := h f (by simp)
    obtain ⟨places, h1, h2⟩ := places_ok ok fs fun f hf => h f (by simp [hf])
    have hi := ok.types _ _ hj
    refine ⟨(f.offset, j.size) :: places, by simp [hi, h1], fun k g jj hk ht => ?_⟩
    cases k with
    | zero =>
      simp at hk
      subst hk
      obtain ⟨info, z, T⟩ := tiOf_ok ok ht
      have := T.inf
      rw [hi] at this
      cases this
      simp [T.size]
    | succ k => simp at hk; simpa using h2 k g jj hk ht

theorem build_gives (ok : EnvOk E G) {t : TypeId} {i : TI} (hti : tiOf E.types t = some i) (r : Rel G B w0 ρ s.heap w) {parts' : Array (Nat × Value)} {ps : List (Nat × Value)} (hp : Parts ρ ps parts'.toList) {fs : Array Field} (hu : i.under = .struct fs) {c : List Value}
    (h : fillA (fun k => match fs[k]? with
        | none => none
        | some (f : Field) => match tiOf E.types f.type with
          | none => none
          | some j => some (f.offset, j.size)) ps i.zero = some c) (hh : s'.heap = s.heap) : Gives G B w0 ρ s s' (.agg ⟨c⟩) ((Instr.build t parts').run E.P w) := by
  obtain ⟨info, z, T⟩ := tiOf_ok ok hti
  obtain ⟨places, h1, h2⟩ := places_ok ok fs.toList (tiOf_fields ok hti hu)
  have hz : All2 (V1 ρ) i.zero z.cells.toList := by rw [← vcells_eq, ← T.zcells]; exact all2_plain T.zplain
  obtain ⟨d', hd, hall⟩ := fill_ok (place' := fun k => places.toArray[k]?) (fun k p hk => by
    try dsimp only at hk
    split at hk
    · cases hk
    · rename_i f hf
      split at hk
      · cases hk
      · rename_i j hj
        cases hk
        have := h2 k f j (by simpa using hf) hj
        simpa using this) hp hz h
  have hb : E.P.built t parts'.toList = some d' := by
    unfold Program.built
    rw [T.inf, T.under, hu]
    dsimp only
    rw [T.zero, h1]
    exact hd
  refine Gives.same r (run_build w t parts' d' hb) hh ?_
  have : d' = ⟨d'.toList⟩ := by simp
  rw [this]
  exact .base (.agg hall)

theorem buildArr_gives (ok : EnvOk E G) {t e : TypeId} {n : Nat} {i j : TI} (hti : tiOf E.types t = some i) (htj : tiOf E.types e = some j) (r : Rel G B w0 ρ s.heap w) {parts' : Array (Nat × Value)} {ps : List (Nat × Value)} (hp : Parts ρ ps parts'.toList) (hu : i.under = .array n e) {c : List Value}
    (h : fillA (fun k => some (k * j.size, j.size)) ps i.zero = some c) (hh : s'.heap = s.heap) : Gives G B w0 ρ s s' (.agg ⟨c⟩) ((Instr.build t parts').run E.P w) := by
  obtain ⟨info, z, T⟩ := tiOf_ok ok hti
  obtain ⟨info2, z2, T2⟩ := tiOf_ok ok htj
  have hz : All2 (V1 ρ) i.zero z.cells.toList := by rw [← vcells_eq, ← T.zcells]; exact all2_plain T.zplain
  obtain ⟨d', hd, hall⟩ := fill_ok (place' := fun k => some (k * j.size, j.size)) (fun k p hk => hk) hp hz h
  have hb : E.P.built t parts'.toList = some d' := by
    unfold Program.built
    rw [T.inf, T.under, hu]
    dsimp only
    rw [T.zero, T2.inf]
    dsimp only
    rw [← T2.size]
    exact hd
  refine Gives.same r (run_build w t parts' d' hb) hh ?_
  have : d' = ⟨d'.toList⟩ := by simp
  rw [this]
  exact .base (.agg hall)

/-! ## Rows of zeros -/
theorem repeatA_length (z : List Value) : ∀ n, (repeatA z n).length = n * z.length
  | 0 => by simp [repeatA]
  | n + 1 => by simp [repeatA, repeatA_length z n, Nat.succ_mul]; omega
theorem repeatA_get (z : List Value) : ∀ (n i : Nat), i < n * z.length → (repeatA z n)[i]? = z[i % z.length]?
  | 0, i, h => by simp at h
  | n + 1, i, h => by
    unfold repeatA
    by_cases hi : i < z.length
    · rw [List.getElem?_append_left hi, Nat.mod_eq_of_lt hi]
    · rw [List.getElem?_append_right (by omega), repeatA_get z n _ (by rw [Nat.succ_mul] at h; omega)]
      rw [← Nat.mod_eq_sub_mod (by omega)]
theorem repeatA_plain {z : List Value} (h : z.all plain1 = true) : ∀ n, (repeatA z n).all plain1 = true
  | 0 => rfl
  | n + 1 => by unfold repeatA; rw [List.all_append, h, repeatA_plain h n]; rfl
theorem repeatA_made (z : Array Value) (n : Nat) : (madeCells z (n * z.size)).toList = repeatA z.toList n := by
  apply List.ext_getElem?
  intro i
  by_cases hi : i < n * z.size
  · rw [repeatA_get _ _ _ (by simpa using hi)]
    have hz : 0 < z.size := by
      rcases Nat.eq_zero_or_pos z.size with h | h
      · rw [h] at hi; simp at hi
      · exact h
    have hm : i % z.size < z.size := Nat.mod_lt _ hz
    simp [madeCells, hi, hm]
  · rw [List.getElem?_eq_none (by simp [size_madeCells]; omega), List.getElem?_eq_none (by rw [repeatA_length]; simpa using (by omega))]

theorem buildSlice_gives (ok : EnvOk E G) {t e : TypeId} {i j : TI} (hti : tiOf E.types t = some i) (htj : tiOf E.types e = some j) (r : Rel G B w0 ρ s.heap w) (hG : G ≤ s.next) (hf : Fresh ρ s.next s'.next) {parts' : Array (Nat × Value)} {ps : List (Nat × Value)} (hp : Parts ρ ps parts'.toList)
    (hu : i.under = .slice e) {len : Nat} {c : List Value} (h : fillA (fun k => some (k * j.size, j.size)) ps (repeatA j.zero len) = some c) (hle : len * j.size ≤ 16777216) {v : Value}
    (hm : ((newBlk (.cells c j.size true false [])).bind fun id => M.pure (.slice (some ⟨id, 0, none⟩) len (capK len))) s = .ok v s') :
    Gives G B w0 ρ s s' v ((Instr.buildSlice t len parts').run E.P w) := by
  obtain ⟨info, z, T⟩ := tiOf_ok ok hti
  obtain ⟨info2, z2, T2⟩ := tiOf_ok ok htj
  have hzs : z2.cells.size = j.size := by
    have := T2.zlen
    rw [T2.zcells, vcells_eq] at this
    simpa using this
  have hz : All2 (V1 ρ) (repeatA j.zero len) (madeCells z2.cells (len * j.size)).toList := by
    rw [← hzs, repeatA_made, T2.zcells, vcells_eq]
    refine all2_plain (repeatA_plain ?_ len)
    have := T2.zplain
    rwa [T2.zcells, vcells_eq] at this
  obtain ⟨d', hd, hall⟩ := fill_ok (place' := fun k => some (k * j.size, j.size)) (fun k p hk => hk) hp hz h
  obtain ⟨id, s1, h1, h2⟩ := bind_ok hm
  obtain ⟨rfl, rfl⟩ := pure_ok h2
  obtain ⟨rfl, hb, he, hn⟩ := newBlk_ok h1
  have hfr := hf s.next (Nat.le_refl _) (by omega)
  have r' := r.made hG hfr hb hall j.size c.length [] [] e (0, 0) (by simp) (by simp [hall.length]) (Nat.le_refl _)
  simp only [List.append_nil] at r'
  refine ⟨.slice (some ⟨w.heap.size, 0, none⟩) len len, _, _, ?_, Ext.one hfr hn, by rw [he]; exact r', VR.of0 (.sliceK (l := ⟨w.heap.size, 0, c.length, j.size⟩) (by simp))⟩
  have htu : E.P.underlying t = some (.slice e) := by rw [T.under, hu]
  have hsz := T2.size
  rw [hsz] at hd hle
  have hbig : ¬ len * info2.size > 2 ^ 24 := by omega
  by_cases h0 : len * info2.size = 0
  · have hd0 : Instr.fill (fun k => some (k * info2.size, info2.size)) ((Array.range (len * info2.size)).map ((#[] : Array Value)[· % (#[] : Array Value).size]!)) parts'.toList = some d' := by
      rw [← hd]
      congr 1
      rw [h0]
      simp [madeCells]
    simp [Instr.buildSlice, run_underlying htu, sizeOf, typeInfo, T2.inf, hbig, h0, newRow]
    rw [h0] at hd0
    simp at hd0
    rw [hd0]
    simp
  · exact run_buildSlice w t e len parts' d' info2 z2 htu T2.inf T2.zero hbig h0 hd
end
end Go.Abs

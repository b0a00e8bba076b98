/- Each operation of the evaluator does what the model's operation does: addresses, slices, appends. -/
import Derived.Test.YtffgakphodjbjaaGreatDoorRotOps
set_option linter.unusedVariables false
set_option linter.unusedSimpArgs false
namespace Go.Abs
open Go.RowKit
section
variable {E : Env} {G B : Nat} {w0 w : World} {ρ : Ren} {s s' : St}

theorem fieldAt_gives (ok : EnvOk E G) {t : TypeId} {i j : TI} (hti : tiOf E.types t = some i) (r : Rel G B w0 ρ s.heap w) {x' : Value} {id off k : Nat} (hx : VR ρ (.pointer (some ⟨id, off, none⟩)) x') {fs : Array Field} (hu : i.under = .struct fs) {f : Field} (hf : fs[k]? = some f)
    (htj : tiOf E.types f.type = some j) (h0 : Nat.beq j.size 0 = false) (hh : s'.heap = s.heap) : Gives G B w0 ρ s s' (.pointer (some ⟨id, off + f.offset, none⟩)) ((Instr.fieldAt t x' k).run E.P w) := by
  obtain ⟨info, z, T⟩ := tiOf_ok ok hti
  obtain ⟨info2, z2, T2⟩ := tiOf_ok ok htj
  obtain ⟨l, hl, rfl⟩ := hx.ptr
  have hne : ¬ j.size = 0 := Nat.ne_of_beq_eq_false h0
  refine Gives.same r (v' := .pointer (some ⟨l.k, l.d + (off + f.offset), none⟩)) ?_ hh (VR.of0 (.ptr hl))
  simp only [Instr.fieldAt, Sem.run_bind, T.run_under, hu, Result.andThen_ok, hf, Instr.sureAddr, Sem.run_pure, fieldPlace, T2.run_size]
  simp [hne, addr_add, Nat.add_assoc]

theorem part_ok (ok : EnvOk E G) {t : TypeId} {j : TI} (htj : tiOf E.types t = some j) {cs cs' : List Value} (hc : All2 (V1 ρ) cs cs') {off : Nat} {v : Value} (h : partA j cs off = some v) (w : World) :
    ∃ v', (part t ⟨cs'⟩ off).run E.P w = .ok v' w ∧ VR ρ v v' := by
  obtain ⟨info, z, T⟩ := tiOf_ok ok htj
  unfold partA at h
  cases hag : j.isAgg with
  | true =>
    rw [hag] at h
    simp only [cond_true, Option.map_eq_some_iff] at h
    obtain ⟨c, hw, rfl⟩ := h
    obtain ⟨h1, rfl, h3⟩ := window_ok hw
    refine ⟨.agg ⟨(cs'.drop off).take j.size⟩, ?_, .base (.agg ((hc.drop off).take j.size))⟩
    simp [part, T.run_agg, hag, T.run_size]
  | false =>
    rw [hag] at h
    simp only [cond_false] at h
    obtain ⟨v', h1, h2⟩ := hc.get off v h
    refine ⟨v', ?_, VR.of1 h2⟩
    simp [part, T.run_agg, hag, h1]

theorem field_gives (ok : EnvOk E G) {t : TypeId} {i j : TI} (hti : tiOf E.types t = some i) (r : Rel G B w0 ρ s.heap w) {x' : Value} {cs : Array Value} {k : Nat} (hx : VR ρ (.agg cs) x') {fs : Array Field} (hu : i.under = .struct fs) {f : Field} (hf : fs[k]? = some f)
    (htj : tiOf E.types f.type = some j) {v : Value} (hp : partA j cs.toList f.offset = some v) (hh : s'.heap = s.heap) : Gives G B w0 ρ s s' v ((Instr.field t x' k).run E.P w) := by
  obtain ⟨info, z, T⟩ := tiOf_ok ok hti
  obtain ⟨cs'', rfl, hall⟩ := VR.agg (cs := cs.toList) hx
  obtain ⟨v', h1, h2⟩ := part_ok ok htj hall hp w
  refine Gives.same r (v' := v') ?_ hh h2
  simp only [Instr.field, Sem.run_bind, T.run_under, hu, Result.andThen_ok, hf, asAgg, Sem.run_pure, h1]

theorem natA_ok {v : Value} {n : Nat} (h : natA v = some n) : ∃ k, v = .int k n := by
  unfold natA at h
  split at h
  · cases h; exact ⟨_, rfl⟩
  · cases h

/-- The forms of a value with an address. -/
theorem indexAt_gives (ok : EnvOk E G) {t : TypeId} (r : Rel G B w0 ρ s.heap w) {x x' ix ix' v : Value} (hx : VR ρ x x') (hi : VR ρ ix ix') (h : indexAddrA E t x ix s = .ok v s') : Gives G B w0 ρ s s' v ((Instr.indexAt t x' ix').run E.P w) := by
  unfold indexAddrA at h
  cases hk : natA ix with
  | none => rw [hk] at h; cases h
  | some k =>
    rw [hk] at h
    obtain ⟨kd, rfl⟩ := natA_ok hk
    have := hi.int
    subst this
    obtain ⟨i, s1, h1, h2⟩ := bind_ok h
    obtain ⟨rfl, info, z, T⟩ := tinfo_ok ok h1
    cases hu : i.under with
    | array n e =>
      rw [hu] at h2
      rcases x with _ | _ | _ | _ | _ | (_ | ⟨id, off, (_ | _)⟩) | _ | _ | _ | _ | _ | _ | _ | _ | _
      all_goals first | (cases h2; done) | skip
      obtain ⟨j, s2, h3, h4⟩ := bind_ok h2
      obtain ⟨rfl, info2, z2, T2⟩ := tinfo_ok ok h3
      obtain ⟨hc, h5⟩ := cond_ok h4
      obtain ⟨rfl, rfl⟩ := pure_ok h5
      obtain ⟨l, hl, rfl⟩ := hx.ptr
      have hlt : k < n := by rw [Nat.blt_eq] at hc; exact hc
      refine Gives.same r (v' := .pointer (some ⟨l.k, l.d + (off + k * j.size), none⟩)) ?_ rfl (VR.of0 (.ptr hl))
      simp only [Instr.indexAt, Sem.run_bind, T.run_under, hu, Result.andThen_ok, asIntOf, Sem.run_pure, Instr.sureAddr]
      simp [T2.run_size, hlt, addr_add, Nat.add_assoc]
    | slice e =>
      rw [hu] at h2
      rcases x with _ | _ | _ | _ | _ | _ | ⟨(_ | ⟨id, off, (_ | _)⟩), len, cap⟩ | _ | _ | _ | _ | _ | _ | _ | _
      all_goals first | (cases h2; done) | skip
      obtain ⟨j, s2, h3, h4⟩ := bind_ok h2
      obtain ⟨rfl, info2, z2, T2⟩ := tinfo_ok ok h3
      obtain ⟨hc, h5⟩ := cond_ok h4
      obtain ⟨rfl, rfl⟩ := pure_ok h5
      obtain ⟨l, a, cap', hl, rfl, ha⟩ := hx.slice
      have hlt : k < len := by rw [Nat.blt_eq] at hc; exact hc
      obtain rfl : a = ⟨l.k, l.d + off, none⟩ := ha.resolve_left (by omega)
      refine Gives.same r (v' := .pointer (some ⟨l.k, l.d + (off + k * j.size), none⟩)) ?_ rfl (VR.of0 (.ptr hl))
      simp only [Instr.indexAt, Sem.run_bind, T.run_under, hu, Result.andThen_ok, asIntOf, Sem.run_pure]
      simp [T2.run_size, hlt, addr_add, Nat.add_assoc]
    | _ => rw [hu] at h2; cases h2

theorem extract_gives (r : Rel G B w0 ρ s.heap w) {vs : Array Value} {x' v : Value} {k : Nat} (hx : VR ρ (.tuple vs) x') (h : vs[k]? = some v) (hh : s'.heap = s.heap) : Gives G B w0 ρ s s' v ((Instr.extract x' k).run E.P w) := by
  obtain ⟨cs', rfl, hall⟩ := VR.tup (cs := vs.toList) hx
  obtain ⟨v', h1, h2⟩ := hall.get k v (by simpa using h)
  refine Gives.same r (v' := v') ?_ hh (.base h2)
  simp [Instr.extract, h1]

theorem boundA_ok {o o' : Option Value} (ho : (o = none ∧ o' = none) ∨ ∃ v v', o = some v ∧ o' = some v' ∧ VR ρ v v') {d n : Nat} (h : boundA o d = some n) : (o' = none ∧ n = d) ∨ ∃ k, o' = some (.int k n) := by
  rcases ho with ⟨rfl, rfl⟩ | ⟨v, v', rfl, rfl, hv⟩
  · cases h; exact .inl ⟨rfl, rfl⟩
  · obtain ⟨k, rfl⟩ := natA_ok h
    rw [hv.int]
    exact .inr ⟨k, rfl⟩

/-- Operands that may be lacking. -/
def OptVR (ρ : Ren) (o o' : Option Value) : Prop := (o = none ∧ o' = none) ∨ ∃ v v', o = some v ∧ o' = some v' ∧ VR ρ v v'

theorem run_sliceBound (P : Program) (w : World) (k : IntKind) (n y : Nat) (c : BoundsCode) (h : n ≤ y) : (Instr.sliceBound (.int k n) y c).run P w = .ok n w := by
  simp [Instr.sliceBound, asIntOf, h]

theorem boundsA_run {P : Program} {w : World} (isS : Bool) {len cap : Nat} {lo hi mx lo' hi' mx' : Option Value} (h1 : OptVR ρ lo lo') (h2 : OptVR ρ hi hi') (h3 : OptVR ρ mx mx') {l h m : Nat} (hb : boundsA len cap lo hi mx = some (l, h, m)) :
    (Instr.sliceBounds isS len cap lo' hi' mx').run P w = .ok (l, h, m) w ∧ l ≤ h ∧ h ≤ m ∧ m ≤ cap := by
  unfold boundsA at hb
  split at hb
  · cases hb
  · rename_i m' hm
    split at hb
    · cases hb
    · rename_i h' hh
      split at hb
      · cases hb
      · rename_i l' hl
        cases hc : (Nat.ble m' cap && (Nat.ble h' m' && (Nat.ble l' h' && (hi.isSome || mx.isNone)))) with
        | false => rw [hc] at hb; cases hb
        | true =>
          rw [hc] at hb
          cases hb
          simp only [Bool.and_eq_true] at hc
          obtain ⟨c1, c2, c3, c4⟩ := hc
          have d1 := Nat.le_of_ble_eq_true c1
          have d2 := Nat.le_of_ble_eq_true c2
          have d3 := Nat.le_of_ble_eq_true c3
          refine ⟨?_, d3, d2, d1⟩
          rcases boundA_ok (ρ := ρ) h3 hm with ⟨rfl, rfl⟩ | ⟨k3, rfl⟩ <;> rcases boundA_ok (ρ := ρ) h2 hh with ⟨rfl, rfl⟩ | ⟨k2, rfl⟩ <;> rcases boundA_ok (ρ := ρ) h1 hl with ⟨rfl, rfl⟩ | ⟨k1, rfl⟩ <;>
            first
            | (simp [Instr.sliceBounds, run_sliceBound, d1, d2, d3]; done)
            | (exfalso
               rcases h2 with ⟨rfl, _⟩ | ⟨_, _, _, he, _⟩
               · rcases h3 with ⟨_, he⟩ | ⟨_, _, rfl, _, _⟩
                 · cases he
                 · simp at c4
               · cases he)

theorem beq_ne {m l : Nat} (h : ¬ m = l) : Nat.beq m l = false := by
  cases hb : Nat.beq m l with
  | false => rfl
  | true => exact absurd (Nat.eq_of_beq_eq_true hb) h

theorem sliceK_gives (ok : EnvOk E G) {e : TypeId} (r : Rel G B w0 ρ s.heap w) {v : Value} {id off len cap : Nat} {p : Pl} (hp : ρ id = some p) {lo hi mx lo' hi' mx' : Option Value} (h1 : OptVR ρ lo lo') (h2 : OptVR ρ hi hi') (h3 : OptVR ρ mx mx') (isS : Bool)
    (hs : sliceK E e id off len cap lo hi mx s = .ok v s') : ∃ (size l h m : Nat), s' = s ∧ (sizeOf e).run E.P w = .ok size w ∧ (Instr.sliceBounds isS len cap lo' hi' mx').run E.P w = .ok (l, h, m) w ∧
      VR ρ v (.slice (some (if m = l then ⟨p.k, p.d + off, none⟩ else (⟨p.k, p.d + off, none⟩ : Addr).add (l * size))) (h - l) (m - l)) := by
  obtain ⟨j, s2, g3, g4⟩ := bind_ok hs
  obtain ⟨rfl, info2, z2, T2⟩ := tinfo_ok ok g3
  cases hb : boundsA len cap lo hi mx with
  | none => rw [hb] at g4; cases g4
  | some q =>
    obtain ⟨l, h, m⟩ := q
    rw [hb] at g4
    obtain ⟨rfl, rfl⟩ := pure_ok g4
    obtain ⟨hrun, _, _, _⟩ := boundsA_run (ρ := ρ) (P := E.P) (w := w) isS h1 h2 h3 hb
    refine ⟨j.size, l, h, m, rfl, T2.run_size w, hrun, ?_⟩
    by_cases hml : m = l
    · subst hml
      simp only [if_true, Nat.beq_refl, cond_true]
      exact VR.of0 (.sliceK hp)
    · simp only [if_neg hml, show Nat.beq m l = false from beq_ne hml, cond_false, addr_add]
      rw [Nat.add_assoc]
      exact VR.of0 (.sliceK hp)

theorem boundsU {P : Program} {len lim cap : Nat} (hll : len ≤ lim) (hle : lim ≤ cap) {lo hi lo' hi' : Option Value} (h1 : OptVR ρ lo lo') (h2 : OptVR ρ hi hi') {l h m : Nat} (hb : boundsA len lim lo hi none = some (l, h, m)) :
    l ≤ h ∧ h ≤ lim ∧ (Instr.sliceBounds true len cap lo' hi' none).run P w = .ok (l, h, cap) w := by
  unfold boundsA at hb
  simp only [boundA] at hb
  split at hb
  · cases hb
  · rename_i h' hh
    split at hb
    · cases hb
    · rename_i l' hl
      cases hc : (Nat.ble lim lim && (Nat.ble h' lim && (Nat.ble l' h' && (hi.isSome || (none : Option Value).isNone)))) with
      | false => rw [hc] at hb; cases hb
      | true =>
        rw [hc] at hb
        cases hb
        simp only [Bool.and_eq_true] at hc
        obtain ⟨c1, c2, c3, c4⟩ := hc
        have d2 := Nat.le_of_ble_eq_true c2
        have d3 := Nat.le_of_ble_eq_true c3
        have d5 : len ≤ cap := by omega
        rcases boundA_ok (ρ := ρ) (n := h) h2 hh with ⟨rfl, rfl⟩ | ⟨k2, rfl⟩ <;> rcases boundA_ok (ρ := ρ) h1 hl with ⟨rfl, rfl⟩ | ⟨k1, rfl⟩ <;>
          refine ⟨d3, d2, ?_⟩ <;> simp [Instr.sliceBounds, run_sliceBound, d2, d3, show h ≤ cap by omega, hle, d5]

theorem boundsX {P : Program} {len cap : Nat} (hle : len ≤ cap) {lo hi mx lo' hi' mx' : Option Value} (h1 : OptVR ρ lo lo') (h2 : OptVR ρ hi hi') (h3 : OptVR ρ mx mx') (hm : mx.isSome = true) {l h m : Nat} (hb : boundsA len len lo hi mx = some (l, h, m)) :
    (Instr.sliceBounds true len cap lo' hi' mx').run P w = .ok (l, h, m) w ∧ l ≤ h ∧ h ≤ m ∧ m ≤ len := by
  unfold boundsA at hb
  split at hb
  · cases hb
  · rename_i m' hm
    split at hb
    · cases hb
    · rename_i h' hh
      split at hb
      · cases hb
      · rename_i l' hl
        cases hc : (Nat.ble m' len && (Nat.ble h' m' && (Nat.ble l' h' && (hi.isSome || mx.isNone)))) with
        | false => rw [hc] at hb; cases hb
        | true =>
          rw [hc] at hb
          cases hb
          simp only [Bool.and_eq_true] at hc
          obtain ⟨c1, c2, c3, c4⟩ := hc
          have d1 := Nat.le_of_ble_eq_true c1
          have d2 := Nat.le_of_ble_eq_true c2
          have d3 := Nat.le_of_ble_eq_true c3
          refine ⟨?_, d3, d2, d1⟩
          have d4 : m ≤ cap := by omega
          rcases boundA_ok (ρ := ρ) h3 hm with ⟨rfl, rfl⟩ | ⟨k3, rfl⟩ <;> rcases boundA_ok (ρ := ρ) h2 hh with ⟨rfl, rfl⟩ | ⟨k2, rfl⟩ <;> rcases boundA_ok (ρ := ρ) h1 hl with ⟨rfl, rfl⟩ | ⟨k1, rfl⟩ <;>
            first
            | (simp [Instr.sliceBounds, run_sliceBound, d1, d2, d3, d4]; done)
            | (exfalso
               rcases h2 with ⟨rfl, _⟩ | ⟨_, _, _, he, _⟩
               · rcases h3 with ⟨rfl, he⟩ | ⟨_, _, rfl, _, _⟩
                 · simp at *
                 · simp at c4
               · cases he)
            | (exfalso
               rcases h3 with ⟨rfl, he⟩ | ⟨_, _, rfl, he, _⟩
               · simp at *
               · cases he)

/-- What is surely there is within the cap. -/
theorem room_le {size off len clen cap d fin : Nat} (hn : len ≤ cap) (hf : d + off + cap * size = fin) (hc : d + clen ≤ fin) : len ≤ room size off len clen ∧ room size off len clen ≤ cap := by
  unfold room
  cases h0 : (Nat.beq size 0 || Nat.beq len 0) with
  | true => exact ⟨Nat.le_refl _, hn⟩
  | false =>
    rw [cond_false]
    refine ⟨Nat.le_max_left _ _, Nat.max_le.2 ⟨hn, ?_⟩⟩
    have hs : 0 < size := by
      rcases Nat.eq_zero_or_pos size with e | e
      · subst e; simp at h0
      · exact e
    refine Nat.div_le_of_le_mul ?_
    rw [Nat.mul_comm]
    omega

theorem sliceU_gives (ok : EnvOk E G) {e : TypeId} (r : Rel G B w0 ρ s.heap w) {x' v : Value} {id off len : Nat} (hx : VR ρ (.slice (some ⟨id, off, none⟩) len 0) x') {lo hi lo' hi' : Option Value} (h1 : OptVR ρ lo lo') (h2 : OptVR ρ hi hi')
    (hs : sliceU E e id off len lo hi s = .ok v s') : s'.heap = s.heap ∧ s'.next = s.next ∧ ∃ (size l h m : Nat) (a : Addr) (cap : Nat), (sizeOf e).run E.P w = .ok size w ∧ x' = .slice (some a) len cap ∧ (Instr.sliceBounds true len cap lo' hi' none).run E.P w = .ok (l, h, m) w ∧
      VR ρ v (.slice (some (if m = l then a else a.add (l * size))) (h - l) (m - l)) := by
  obtain ⟨j, s2, g3, g4⟩ := bind_ok hs
  obtain ⟨rfl, info2, z2, T2⟩ := tinfo_ok ok g3
  obtain ⟨bk, s3, g5, g6⟩ := bind_ok g4
  obtain ⟨hbk, hhe, hhn⟩ := getBlk_ok g5
  cases bk with
  | cells cs es own old par =>
    dsimp only at g6
    cases hb : boundsA len (room j.size off len cs.length) lo hi none with
    | none => rw [hb] at g6; cases g6
    | some q =>
      obtain ⟨l, h, m⟩ := q
      rw [hb] at g6
      obtain ⟨hes, g7⟩ := cond_ok g6
      obtain ⟨rfl, rfl⟩ := pure_ok g7
      obtain ⟨p, hp, hcase⟩ := hx.sliceU
      obtain ⟨p', cr⟩ := r.blk id _ hbk
      have : p' = p := by have := cr.at_; rw [hp] at this; cases this; rfl
      subst this
      have hes : j.size = p'.es := by
        rw [cr.es_]
        exact Nat.eq_of_beq_eq_true hes
      refine ⟨hhe, hhn, ?_⟩
      rcases hcase with ⟨cap, hle, hfin, rfl⟩ | ⟨rfl, a, rfl⟩
      · obtain ⟨r1, r2⟩ := room_le (size := j.size) (clen := cs.length) hle (by rw [hes]; exact hfin) cr.fits
        obtain ⟨d3, d2, hrun⟩ := boundsU (ρ := ρ) (P := E.P) (w := w) r1 r2 h1 h2 hb
        refine ⟨j.size, l, h, cap, _, cap, T2.run_size w, rfl, hrun, ?_⟩
        by_cases hcl : cap = l
        · rw [if_pos hcl]
          have e1 : h - l = 0 := by omega
          have e2 : cap - l = 0 := by omega
          rw [e1, e2]
          exact VR.of0 (.sliceE hp)
        · rw [if_neg hcl, addr_add, Nat.add_assoc]
          refine VR.of0 (.sliceU hp (by omega) ?_)
          rw [hes, ← hfin]
          have e3 : cap * p'.es = l * p'.es + (cap - l) * p'.es := by rw [← Nat.add_mul]; congr 1; omega
          omega
      · have e0 : room j.size off 0 cs.length = 0 := by
          unfold room
          rw [show (Nat.beq j.size 0 || Nat.beq 0 0) = true by simp]
          rfl
        rw [e0] at hb
        obtain ⟨d3, d2, hrun⟩ := boundsU (ρ := ρ) (P := E.P) (w := w) (Nat.le_refl 0) (Nat.le_refl 0) h1 h2 hb
        have e0 : l = 0 := by omega
        have e1 : h = 0 := by omega
        subst e0; subst e1
        refine ⟨j.size, 0, 0, 0, a, 0, T2.run_size w, rfl, hrun, ?_⟩
        simp only [if_true, Nat.sub_self, Nat.zero_mul, Nat.add_zero]
        exact VR.of0 (.sliceE hp)
  | _ => cases g6

theorem sliceX_gives (ok : EnvOk E G) {e : TypeId} (r : Rel G B w0 ρ s.heap w) {x' v : Value} {id off len : Nat} (hx : VR ρ (.slice (some ⟨id, off, none⟩) len 0) x') {lo hi mx lo' hi' mx' : Option Value} (h1 : OptVR ρ lo lo') (h2 : OptVR ρ hi hi') (h3 : OptVR ρ mx mx') (hmx : mx.isSome = true)
    (hs : sliceX E e id off len lo hi mx s = .ok v s') : s' = s ∧ ∃ (size l h m : Nat) (a : Addr) (cap : Nat), (sizeOf e).run E.P w = .ok size w ∧ x' = .slice (some a) len cap ∧ (Instr.sliceBounds true len cap lo' hi' mx').run E.P w = .ok (l, h, m) w ∧
      VR ρ v (.slice (some (if m = l then a else a.add (l * size))) (h - l) (m - l)) := by
  obtain ⟨j, s2, g3, g4⟩ := bind_ok hs
  obtain ⟨rfl, info2, z2, T2⟩ := tinfo_ok ok g3
  cases hb : boundsA len len lo hi mx with
  | none => rw [hb] at g4; cases g4
  | some q =>
    obtain ⟨l, h, m⟩ := q
    rw [hb] at g4
    obtain ⟨rfl, rfl⟩ := pure_ok g4
    refine ⟨rfl, ?_⟩
    obtain ⟨p, hp, hcase⟩ := hx.sliceU
    rcases hcase with ⟨cap, hle, hfin, rfl⟩ | ⟨rfl, a, rfl⟩
    · obtain ⟨hrun, d1, d2, d3⟩ := boundsX (ρ := ρ) (P := E.P) (w := w) hle h1 h2 h3 hmx hb
      refine ⟨j.size, l, h, m, _, cap, T2.run_size w, rfl, hrun, ?_⟩
      by_cases hml : m = l
      · subst hml
        have e1 : h - m = 0 := by omega
        simp only [if_true, Nat.beq_refl, cond_true, e1, Nat.sub_self]
        exact VR.of0 (.sliceE hp)
      · simp only [if_neg hml, show Nat.beq m l = false from beq_ne hml, cond_false, addr_add]
        rw [Nat.add_assoc]
        exact VR.of0 (.sliceK hp)
    · obtain ⟨hrun, d1, d2, d3⟩ := boundsX (ρ := ρ) (P := E.P) (w := w) (Nat.le_refl 0) h1 h2 h3 hmx hb
      have e0 : m = 0 := by omega
      have e1 : h = 0 := by omega
      have e2 : l = 0 := by omega
      subst e0; subst e1; subst e2
      refine ⟨j.size, 0, 0, 0, a, 0, T2.run_size w, rfl, hrun, ?_⟩
      simp only [if_true, Nat.sub_self, Nat.beq_refl, cond_true]
      exact VR.of0 (.sliceE hp)

theorem slice_gives (ok : EnvOk E G) {t : TypeId} (r : Rel G B w0 ρ s.heap w) {x x' v : Value} {lo hi mx lo' hi' mx' : Option Value} (hx : VR ρ x x') (h1 : OptVR ρ lo lo') (h2 : OptVR ρ hi hi') (h3 : OptVR ρ mx mx') (h : sliceA E t x lo hi mx s = .ok v s') :
    Gives G B w0 ρ s s' v ((Instr.sliceAt t x' lo' hi' mx').run E.P w) := by
  unfold sliceA at h
  obtain ⟨i, s1, g1, g2⟩ := bind_ok h
  obtain ⟨rfl, info, z, T⟩ := tinfo_ok ok g1
  cases hu : i.under with
  | array n e =>
    rw [hu] at g2
    rcases x with _ | _ | _ | _ | _ | (_ | ⟨id, off, (_ | _)⟩) | _ | _ | _ | _ | _ | _ | _ | _ | _
    all_goals first | (cases g2; done) | skip
    obtain ⟨p, hp, rfl⟩ := hx.ptr
    obtain ⟨size, l, h, m, rfl, hsz, hrun, hv⟩ := sliceK_gives ok r hp h1 h2 h3 false g2
    refine Gives.same r ?_ rfl hv
    simp only [Instr.sliceAt, Sem.run_bind, T.run_under, hu, Result.andThen_ok, Instr.sureAddr, Sem.run_pure, hrun, hsz]
  | slice e =>
    rw [hu] at g2
    rcases x with _ | _ | _ | _ | _ | _ | ⟨(_ | ⟨id, off, (_ | _)⟩), len, cap0⟩ | _ | _ | _ | _ | _ | _ | _ | _
    all_goals first | (cases g2; done) | skip
    · cases len with
      | succ _ => cases g2
      | zero =>
        cases cap0 with
        | succ _ => cases g2
        | zero =>
          obtain ⟨j, s2, g3, g4⟩ := bind_ok (show (sliceN E e lo hi mx) s1 = _ from g2)
          obtain ⟨rfl, info2, z2, T2⟩ := tinfo_ok ok g3
          cases hb : boundsA 0 0 lo hi mx with
          | none => rw [hb] at g4; cases g4
          | some q =>
            rw [hb] at g4
            obtain ⟨rfl, rfl⟩ := pure_ok g4
            have := hx.plain_eq rfl
            subst this
            obtain ⟨l, h, m⟩ := q
            obtain ⟨hrun, d1, d2, d3⟩ := boundsA_run (ρ := ρ) (P := E.P) (w := w) true h1 h2 h3 hb
            have e0 : m = 0 := by omega
            have e1 : h = 0 := by omega
            have e2 : l = 0 := by omega
            subst e0; subst e1; subst e2
            refine Gives.same r (v' := .slice none 0 0) ?_ rfl (VR.of_plain rfl)
            simp [Instr.sliceAt, Instr.slice, T.run_under, hu, hrun, T2.run_size]
    · cases cap0 with
      | succ c =>
        obtain ⟨p, hp, rfl⟩ := hx.sliceK
        obtain ⟨size, l, h, m, rfl, hsz, hrun, hv⟩ := sliceK_gives ok r hp h1 h2 h3 true (show sliceK E e id off len c lo hi mx s1 = _ from g2)
        refine Gives.same r ?_ rfl hv
        simp only [Instr.sliceAt, Instr.slice, Sem.run_bind, T.run_under, hu, Result.andThen_ok, Sem.run_pure, hrun, hsz]
        by_cases hml : m = l <;> simp [hml]
      | zero =>
        cases mx with
        | some y =>
          obtain ⟨rfl, size, l, h, m, a, cap, hsz, rfl, hrun, hv⟩ := sliceX_gives ok r hx h1 h2 h3 rfl (show sliceX E e id off len lo hi (some y) s1 = _ from g2)
          refine Gives.same r ?_ rfl hv
          simp only [Instr.sliceAt, Instr.slice, Sem.run_bind, T.run_under, hu, Result.andThen_ok, Sem.run_pure, hrun, hsz]
          by_cases hml : m = l <;> simp [hml]
        | none =>
          have h3' : mx' = none := by
            rcases h3 with ⟨_, e⟩ | ⟨_, _, e, _⟩
            · exact e
            · cases e
          subst h3'
          obtain ⟨hh, hn, size, l, h, m, a, cap, hsz, rfl, hrun, hv⟩ := sliceU_gives ok r hx h1 h2 (show sliceU E e id off len lo hi s1 = _ from g2)
          refine Gives.same r ?_ hh hv
          simp only [Instr.sliceAt, Instr.slice, Sem.run_bind, T.run_under, hu, Result.andThen_ok, Sem.run_pure, hrun, hsz]
          by_cases hml : m = l <;> simp [hml]
  | _ => rw [hu] at g2; cases g2
end
end Go.Abs

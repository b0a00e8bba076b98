/- append, copy: what the evaluator makes of them. -/
import Derived.Test.YtffgakphodjbjaaGreatDoorRotOps2
set_option linter.unusedVariables false
set_option linter.unusedSimpArgs false
namespace Go.Abs
open Go.RowKit

theorem Ext.widen {ρ ρ' : Ren} {a a' b : Nat} (h : Ext ρ ρ' a b) (ha : a' ≤ a) : Ext ρ ρ' a' b := fun id => by
  rcases h id with e | ⟨e, h1, h2⟩
  · exact .inl e
  · exact .inr ⟨e, by omega, h2⟩

/-- The same block, told as an elder one perhaps. -/
def Aged (b b' : Blk) : Prop := match b, b' with
  | .cells c es own o par, .cells c' es' own' o' par' => c' = c ∧ es' = es ∧ own' = own ∧ par' = par ∧ (o = true → o' = true)
  | .iter s p, .iter s' p' => s' = s ∧ p' = p
  | .lp s p d, .lp s' p' d' => s' = s ∧ p' = p ∧ d' = d
  | .df, .df => True
  | _, _ => False
theorem Aged.refl {b : Blk} (h : live b = true) : Aged b b := by
  cases b with
  | cells c es own o par => exact ⟨rfl, rfl, rfl, rfl, id⟩
  | dead => cases h
  | iter s p => exact ⟨rfl, rfl⟩
  | lp s p d => exact ⟨rfl, rfl, rfl⟩
  | df => trivial
theorem Aged.rel {B : Nat} {ρ : Ren} {w : World} {id : Nat} {b b' : Blk} (h : Aged b b') (r : BlkRel B ρ w id b) : BlkRel B ρ w id b' := by
  cases b <;> cases b' <;> first | exact h.elim | skip
  · obtain ⟨rfl, rfl, rfl, rfl, _⟩ := h; exact r
  · obtain ⟨rfl, rfl⟩ := h; exact r
  · obtain ⟨rfl, rfl, rfl⟩ := h; exact r
  · exact r
theorem Aged.own {b b' : Blk} (h : Aged b b') : ownB b' = ownB b ∧ live b = true ∧ live b' = true := by
  cases b <;> cases b' <;> first | exact h.elim | skip
  · obtain ⟨rfl, rfl, rfl, rfl, _⟩ := h; exact ⟨rfl, rfl, rfl⟩
  · obtain ⟨rfl, rfl⟩ := h; exact ⟨rfl, rfl, rfl⟩
  · exact ⟨rfl, rfl, rfl⟩
  · exact ⟨rfl, rfl, rfl⟩
theorem under_cells {i : Nat} {bi bj : Blk} {li lj : Pl} (u : Under i bi bj li lj) : ∃ ci ei oi pi cj ej oj dj pj, bi = .cells ci ei oi true pi ∧ bj = .cells cj ej oj dj pj ∧ i ∈ pj ∧ li.d + ci.length ≤ lj.d + cj.length := by
  unfold Under at u
  split at u
  · exact ⟨_, _, _, _, _, _, _, _, _, rfl, rfl, u⟩
  · exact u.elim
theorem Aged.cells {c : List Value} {es : Nat} {own o : Bool} {par : List Nat} {b' : Blk} (h : Aged (.cells c es own o par) b') : ∃ o', b' = .cells c es own o' par ∧ (o = true → o' = true) := by
  cases b' with
  | cells c' es' own' o' par' =>
    obtain ⟨rfl, rfl, rfl, rfl, ho⟩ := h
    exact ⟨o', rfl, ho⟩
  | _ => exact h.elim
theorem Aged.under {i : Nat} {bi bi' bj bj' : Blk} {li lj : Pl} (h : Aged bi bi') (k : Aged bj bj') (u : Under i bi bj li lj) : Under i bi' bj' li lj := by
  obtain ⟨ci, ei, oi, pi, cj, ej, oj, dj, pj, rfl, rfl, u1, u2⟩ := under_cells u
  obtain ⟨o1, rfl, ho⟩ := h.cells
  obtain ⟨o2, rfl, _⟩ := k.cells
  rw [ho rfl]
  exact ⟨u1, u2⟩

section
variable {G B : Nat} {w0 w : World} {ρ : Ren} {h : T Blk}

/-- An append in place: a new block over the elder one's. -/
theorem Rel.appendIn (r : Rel G B w0 ρ h w) {id id' : Nat} {c : List Value} {es : Nat} {par : List Nat} (hid : h.get id = some (.cells c es true false par)) {l : Pl} (hl : ρ id = some l)
    {off q : Nat} {xs xs' : List Value} (hx : All2 (V1 ρ) xs xs') (hq : off + q ≤ c.length) (hroom : l.d + off + q + xs.length ≤ l.fin) (hfr : ρ id' = none) (hG : G ≤ id') (hne : id' ≠ id)
    {h' : T Blk} {par' : List Nat} (e1 : h'.get id' = some (.cells ((c.drop off).take q ++ xs) es true false par'))
    (e2 : ∀ x bx, x ≠ id' → h'.get x = some bx → live bx = true → ∃ b0, h.get x = some b0 ∧ Aged b0 bx ∧
      (∀ lx, ρ x = some lx → lx.k = l.k → ∃ cx ex ox px, bx = .cells cx ex ox true px ∧ x ∈ par' ∧ lx.d + cx.length ≤ l.d + off + q)) :
    Rel G B w0 (fun x => if x = id' then some ⟨l.k, l.d + off, l.fin, l.es⟩ else ρ x) h' (w.setCells l.k (l.d + off + q) xs') := by
  obtain ⟨l', cr⟩ := r.blk id _ hid
  have : l' = l := by have := cr.at_; rw [hl] at this; cases this; rfl
  subst this
  have hlen := hx.length
  have hs : Sub ρ (fun x => if x = id' then some ⟨l'.k, l'.d + off, l'.fin, l'.es⟩ else ρ x) := fun x y hxy => by
    dsimp only
    rw [if_neg (by rintro rfl; rw [hfr] at hxy; cases hxy)]
    exact hxy
  have hql : ((c.drop off).take q).length = q := by simp; omega
  refine ⟨below_setCells' (cr.own_ rfl) _ _ _ r.below, by rw [size_setCells']; exact r.size, fun g hg => ?_, fun x b hb => ?_, fun i j bi bj li lj hij hi hj vi vj ho ρi ρj hk => ?_⟩
  · obtain ⟨lg, h1, h2⟩ := r.glob g hg
    exact ⟨lg, hs _ _ h1, h2⟩
  · by_cases hxid : x = id'
    · subst hxid
      rw [e1] at hb
      cases hb
      refine ⟨⟨l'.k, l'.d + off, l'.fin, l'.es⟩, by simp, cr.es_, cr.own_, by rw [size_setCells']; exact cr.lt, is_setCells' _ _ _ _ cr.is_, fun j hj => ?_, fun _ j hj => ?_, fun i v hi => ?_, by dsimp only; rw [List.length_append, hql]; omega⟩
      · refine isSome_setCells' _ _ _ _ _ (cr.there j (.inl ?_))
        dsimp only at hj
        rw [List.length_append, hql] at hj
        omega
      · rw [World.frozen?_setCells]
        refine cr.free rfl j (.inl ?_)
        dsimp only at hj
        rw [List.length_append, hql] at hj
        omega
      · dsimp only
        by_cases hi' : i < q
        · rw [List.getElem?_append_left (by omega), List.getElem?_take_of_lt hi', List.getElem?_drop] at hi
          obtain ⟨v', h1, h2⟩ := cr.val _ _ hi
          refine ⟨v', ?_, h2.mono hs⟩
          rw [World.cell?_setCells_out _ _ _ _ _ (fun _ _ => by simp; omega), show l'.d + off + i = l'.d + (off + i) by omega]
          exact h1
        · rw [List.getElem?_append_right (by omega), hql] at hi
          obtain ⟨v', h1, h2⟩ := hx.get _ _ hi
          have hj' : i - q < xs'.length := (List.getElem?_eq_some_iff.1 h1).1
          have := World.cell?_setCells_in l'.k xs' (l'.d + off + q) w (fun y hy => cr.there _ (.inl (by omega))) (i - q) hj'
          rw [show l'.d + off + i = l'.d + off + q + (i - q) by omega, this]
          rw [List.getElem?_eq_getElem hj'] at h1
          exact ⟨v', h1, h2.mono hs⟩
    · cases hv : live b with
      | false => cases b <;> first | trivial | cases hv
      | true =>
        obtain ⟨b0, g0, ag, far⟩ := e2 x b hxid hb hv
        refine Aged.rel ag ?_
        have hr := r.blk x b0 g0
        obtain ⟨lx, p1, p2, p3⟩ := hr.place ag.own.2.1
        by_cases hk : lx.k = l'.k
        · obtain ⟨cx, ex, ox, px, rfl, _, hcov⟩ := far lx p1 hk
          cases b0 with
          | cells cx' ex' ox' oo px' =>
            obtain ⟨rfl, rfl, rfl, rfl, _⟩ := ag
            obtain ⟨ly, cy⟩ := hr
            have : ly = lx := by have := cy.at_; rw [p1] at this; cases this; rfl
            subst this
            refine ⟨ly, hs _ _ p1, cy.es_, cy.own_, by rw [size_setCells']; exact cy.lt, by rw [hk]; exact is_setCells' _ _ _ _ cr.is_, fun j hj => isSome_setCells' _ _ _ _ _ (cy.there j hj), fun ho j hj => by rw [World.frozen?_setCells]; exact cy.free ho j hj, fun i v hi => ?_, cy.fits⟩
            obtain ⟨v', h1, h2⟩ := cy.val i v hi
            have hil : i < cx.length := (List.getElem?_eq_some_iff.1 hi).1
            refine ⟨v', ?_, h2.mono hs⟩
            rw [World.cell?_setCells_out _ _ _ _ _ (fun _ _ => by simp; omega)]
            exact h1
          | _ => exact ag.elim
        · refine hr.mono hs (by rw [size_setCells']; exact Nat.le_refl _) (fun ly hly _ => ?_)
          rw [p1] at hly; cases hly
          exact heap_setCells' _ hk _ _ _
  · by_cases hi' : i = id'
    · subst hi'
      rw [if_pos rfl] at ρi
      cases ρi
      rw [e1] at hi; cases hi
      rw [if_neg (Ne.symm hij)] at ρj
      obtain ⟨b0, g0, ag, far⟩ := e2 j bj (Ne.symm hij) hj vj
      obtain ⟨cx, ex, ox, px, rfl, hm, hcov⟩ := far lj ρj hk.symm
      refine .inr ⟨hm, ?_⟩
      dsimp only
      rw [List.length_append, hql]
      omega
    · rw [if_neg hi'] at ρi
      by_cases hj' : j = id'
      · subst hj'
        rw [if_pos rfl] at ρj
        cases ρj
        rw [e1] at hj; cases hj
        obtain ⟨b0, g0, ag, far⟩ := e2 i bi hi' hi vi
        obtain ⟨cx, ex, ox, px, rfl, hm, hcov⟩ := far li ρi hk
        refine .inl ⟨hm, ?_⟩
        dsimp only
        rw [List.length_append, hql]
        omega
      · rw [if_neg hj'] at ρj
        obtain ⟨b0, g0, ag, _⟩ := e2 i bi hi' hi vi
        obtain ⟨b1, g1, ag1, _⟩ := e2 j bj hj' hj vj
        rcases r.sep i j b0 b1 li lj hij g0 g1 ag.own.2.1 ag1.own.2.1 (by rw [← ag.own.1, ← ag1.own.1]; exact ho) ρi ρj hk with u | u
        · exact .inl (ag.under ag1 u)
        · exact .inr (ag1.under ag u)
end

section
variable {E : Env} {G B : Nat} {w0 w : World} {ρ : Ren} {s s' : St}

theorem growOk_ok {need old bytes : Nat} (h : growOk need bytes = true) (ho : old < need) : ((need : Nat) : Int) ≤ 9223372036854775807 ∧ Builtin.nextslicecap need old * bytes ≤ 281474976710656 := by
  unfold growOk at h
  simp only [Bool.and_eq_true] at h
  have h1 := Nat.le_of_ble_eq_true h.1
  have h2 := Nat.le_of_ble_eq_true h.2
  refine ⟨by omega, ?_⟩
  have h3 := nextslicecap_le ho
  calc Builtin.nextslicecap need old * bytes ≤ (2 * need) * bytes := Nat.mul_le_mul_right _ h3
    _ ≤ (2 * 1000000) * 1000000 := Nat.mul_le_mul (by omega) h2
    _ ≤ 281474976710656 := by omega

/-- The source of an append, in the model's words. -/
theorem srcCells_ok (ok : EnvOk E G) (r : Rel G B w0 ρ s.heap w) {size : Nat} {x x' : Value} (hx : VR ρ x x') {tx : TypeId} {ix : TI} {info : TypeInfo} {z : Value} (T : TiOk E.P tx ix info z) (hk : srcType ix.under = true) {nc : Nat × List Value} (h : srcCells size x s = .ok nc s') :
    s'.heap = s.heap ∧ s'.next = s.next ∧ ∃ news, All2 (V1 ρ) nc.2 news ∧ Src E.P size tx x' nc.1 news w := by
  have hkind : (∃ e', E.P.underlying tx = some (.slice e')) ∨ E.P.underlying tx = some .string := by
    have := T.under
    cases hu : ix.under <;> rw [hu] at hk this <;> first | (cases hk; done) | exact .inl ⟨_, this⟩ | exact .inr this
  unfold srcCells at h
  split at h
  · obtain ⟨rfl, rfl⟩ := pure_ok h
    have := hx.plain_eq rfl
    subst this
    exact ⟨rfl, rfl, [], .nil, hkind, fun _ => rfl, run_firstCells_none w size 0 0 0, run_firstCells_none w.drew size 0 0 0, by simp, fun _ h => by cases h⟩
  · rename_i id off n cap
    obtain ⟨c, s1, h1, h2⟩ := bind_ok h
    obtain ⟨rfl, rfl⟩ := pure_ok h2
    obtain ⟨cs, es, own, old, par, hg, hw, he, hn⟩ := readAt_ok h1
    obtain ⟨l, a, cap', hl, rfl, ha⟩ := hx.slice
    refine ⟨he, hn, ?_⟩
    obtain ⟨ys, hall, hlen, hc⟩ := r.reads hg hl hw
    refine ⟨ys, hall, hkind, fun _ => rfl, ?_, ?_, hlen, all2_oneCell hall⟩
    · refine run_firstCells_some w size n a n cap' ys hlen (fun j u hj => ?_)
      have hj' : j < n * size := by rw [← hlen]; exact (List.getElem?_eq_some_iff.1 hj).1
      have hn0 : n ≠ 0 := by rintro rfl; simp at hj'
      obtain rfl := ha.resolve_left hn0
      rw [addr_add]
      exact hc j u hj
    · refine run_firstCells_some w.drew size n a n cap' ys hlen (fun j u hj => ?_)
      have hj' : j < n * size := by rw [← hlen]; exact (List.getElem?_eq_some_iff.1 hj).1
      have hn0 : n ≠ 0 := by rintro rfl; simp at hj'
      obtain rfl := ha.resolve_left hn0
      rw [addr_add]
      exact hc j u hj
  · rename_i str
    obtain ⟨hc, h1⟩ := cond_ok h
    obtain ⟨rfl, rfl⟩ := pure_ok h1
    have := hx.str
    subst this
    have e1 : size = 1 := Nat.eq_of_beq_eq_true hc
    subst e1
    refine ⟨rfl, rfl, byteCells str, all2_plain ?_, ?_⟩
    · refine List.all_eq_true.2 fun v hv => ?_
      obtain ⟨b, _, rfl⟩ := List.mem_map.1 hv
      rfl
    · have e2 : str.data.toList.length = str.size := by simp
      have h0 := byteCells_length str
      refine ⟨hkind, fun _ => by rw [e2]; rfl, ?_, ?_, by rw [h0, Nat.mul_one, e2], fun u hu => ?_⟩
      · rw [e2]; exact firstCells_string str w
      · rw [e2]; exact firstCells_string str w.drew
      · obtain ⟨_, _, rfl⟩ := List.mem_map.1 hu
        rfl
  · cases h

theorem zeroCells_length (z : Array Value) (n : Nat) : (Builtin.zeroCells z n).size = n * z.size := by simp [Builtin.zeroCells]

theorem grownCap_ge (w : World) (need old : Nat) (e : TypeId) : need ≤ grownCap w need old e := by
  exact Nat.le_add_right need _

/-- What is appended: another row's cells, or zeros ('make' within an append). -/
inductive Src2 (P : Program) (i : TypeInfo) (z : Value) (tx : TypeId) (x : Value) (n : Nat) (news : List Value) (w : World) : Prop where
  | src (h : Src P i.size tx x n news w) : Src2 P i z tx x n news w
  | zeros (q k : IntKind) (hk : P.underlying tx = some (.int q)) (hx : x = .int k (n : Int)) (hz : news = (Builtin.zeroCells z.cells n).toList) (hs : z.cells.size = i.size) (h1 : ∀ u ∈ news, u.oneCell' = true)
      (hb : n * i.bytes ≤ 281474976710656) (hn : n ≤ 1000000) : Src2 P i z tx x n news w
theorem zeroCells_size (z : Array Value) (n : Nat) : (Builtin.zeroCells z n).size = n * z.size := by simp [Builtin.zeroCells]
theorem Src2.newsLen {P : Program} {i : TypeInfo} {z : Value} {tx : TypeId} {x : Value} {n : Nat} {news : List Value} {w : World} (h : Src2 P i z tx x n news w) : news.length = n * i.size := by
  cases h with
  | src h => exact h.newsLen
  | zeros q k hk hx hz hs h1 hb hn => rw [hz, Array.length_toList, zeroCells_size, hs]
theorem wrap_small {n : Nat} (h : n ≤ 1000000) : IntKind.i64.wrap (n : Int) = n := by
  have h1 : (n : Int) ≤ 1000000 := by omega
  simp [IntKind.wrap, IntKind.i64, IntKind.bits, IntKind.signed] <;> omega

section
variable {P : Program} (w : World) {ty : TypeId}
theorem run_append_nothing2 (t tx e : TypeId) (i : TypeInfo) (z : Value) (ht : P.underlying t = some (.slice e)) (hi : P.info? e = some i) (hz : i.zero = some z) (base : Option Addr) (sLen sCap : Nat) (hle : sLen ≤ sCap) (x : Value) (hs : Src2 P i z tx x 0 [] w) :
    (Builtin.append_ #[t, tx] ty #[.slice base sLen sCap, x]).run P w = .ok (.slice base sLen sCap) w := by
  cases hs with
  | src h => exact run_append_nothing w t tx ty e i ht hi base sLen sCap hle x h
  | zeros q k hk hx hz hs h1 hb hn =>
    subst hx
    cases base <;> simp [Builtin.append_, run_underlying ht, run_underlying hk, sizeOf, typeInfo, hi, hle, asInt, asIntOf, show IntKind.i64.wrap 0 = 0 from rfl, storeCells]
theorem run_append_room2 (t tx e : TypeId) (i : TypeInfo) (z : Value) (ht : P.underlying t = some (.slice e)) (hi : P.info? e = some i) (hzz : i.zero = some z) (b off sLen sCap : Nat) (x : Value) (n : Nat) (news : List Value) (hs : Src2 P i z tx x n news w)
    (hroom : sLen + n ≤ sCap) (hc : ∀ j, j < news.length → (w.cell? ⟨b, off + sLen * i.size + j, none⟩).isSome = true) (hf : ∀ j, j < news.length → w.frozen? ⟨b, off + sLen * i.size + j, none⟩ = false) :
    (Builtin.append_ #[t, tx] ty #[.slice (some ⟨b, off, none⟩) sLen sCap, x]).run P w = .ok (.slice (some ⟨b, off, none⟩) (sLen + n) sCap) (w.setCells b (off + sLen * i.size) news) := by
  cases hs with
  | src h => exact run_append_room_src w t tx ty e i ht hi b off sLen sCap x n news h hroom hc hf
  | zeros q k hk hx hz hs h1 hb hn =>
    have hst := run_storeCells_cells (P := P) b (off + sLen * i.size) news 0 w (by simpa using hc) (by simpa using hf) h1
    simp only [Nat.add_zero] at hst
    subst hx
    have hb' : ¬ ((281474976710656 : Int) < (n : Int) * (i.bytes : Int)) := by
      have : ((n * i.bytes : Nat) : Int) ≤ 281474976710656 := by omega
      rw [Int.natCast_mul] at this
      omega
    have hneg : ¬ ((n : Int) < 0) := by omega
    by_cases h0 : n * i.size = 0
    · have hnews : news = [] := by
        have : news.length = 0 := by rw [hz, Array.length_toList, zeroCells_size, hs, h0]
        exact List.length_eq_zero_iff.1 this
      subst hnews
      simp [Builtin.append_, run_underlying ht, run_underlying hk, sizeOf, typeInfo, hi, asInt, asIntOf, wrap_small hn, hroom, hb', hneg, h0, storeCells]
      rfl
    · rw [hz] at hst
      simp [Builtin.append_, run_underlying ht, run_underlying hk, sizeOf, typeInfo, zeroValue, hi, hzz, asInt, asIntOf, wrap_small hn, hroom, hb', hneg, h0, Addr.add_lit, hst]
      rw [hz]
theorem run_append_grow2 (t tx e : TypeId) (i : TypeInfo) (z : Value) (ht : P.underlying t = some (.slice e)) (hi : P.info? e = some i) (hz : i.zero = some z) (base : Option Addr) (sLen sCap : Nat) (olds : List Value)
    (hold : (Builtin.firstCells i.size sLen (.slice base sLen sCap)).run P w.drew = .ok olds.toArray w.drew) (x : Value) (n : Nat) (news : List Value) (hs : Src2 P i z tx x n news w)
    (hg : sCap < sLen + n) (h63 : ((sLen + n : Nat) : Int) ≤ 9223372036854775807) (hfit : Builtin.nextslicecap (sLen + n) sCap * i.bytes ≤ 281474976710656) :
    (Builtin.append_ #[t, tx] ty #[.slice base sLen sCap, x]).run P w =
      .ok (.slice (some ⟨w.heap.size, 0, none⟩) (sLen + n) (grownCap w (sLen + n) sCap e))
        (w.drew.alloc (.cells ((olds ++ news).toArray ++ Builtin.zeroCells z.cells (grownCap w (sLen + n) sCap e - (sLen + n))) e)) := by
  cases hs with
  | src h => exact run_append_grow_src w t tx ty e i z ht hi hz base sLen sCap olds hold x n news h hg h63 hfit
  | zeros q k hk hx hzz hs h1 hb hn' =>
    subst hx
    have hn : ¬ (sLen + n ≤ sCap) := by omega
    have h63' : ¬ (9223372036854775807 < ((sLen : Int) + (n : Int))) := by omega
    have h48' : ¬ (281474976710656 < Builtin.nextslicecap (sLen + n) sCap * i.bytes) := by omega
    have hb' : ¬ ((281474976710656 : Int) < (n : Int) * (i.bytes : Int)) := by
      have : ((n * i.bytes : Nat) : Int) ≤ 281474976710656 := by omega
      rw [Int.natCast_mul] at this
      omega
    have hneg : ¬ ((n : Int) < 0) := by omega
    by_cases h0 : n * i.size = 0
    · have hnews : news = [] := by
        have : news.length = 0 := by rw [hzz, Array.length_toList, zeroCells_size, hs, h0]
        exact List.length_eq_zero_iff.1 this
      subst hnews
      simp [Builtin.append_, run_underlying ht, run_underlying hk, sizeOf, typeInfo, zeroValue, hi, hz, asInt, asIntOf, wrap_small hn', hn, h63', h48', hb', hneg, h0, Question.forced, hold, newRow, grownCap]
    · simp [Builtin.append_, run_underlying ht, run_underlying hk, sizeOf, typeInfo, zeroValue, hi, hz, asInt, asIntOf, wrap_small hn', hn, h63', h48', hb', hneg, h0, Question.forced, hold, newRow, grownCap]
      congr 2
      apply Array.ext'
      rw [hzz]
      simp [List.append_assoc]
end

/-- There is no room: a new row. -/
theorem appGrow_gives (ok : EnvOk E G) {st xt e ty : TypeId} {i ie : TI} {info info2 : TypeInfo} {z z2 : Value} (T : TiOk E.P st i info z) (hu : i.under = .slice e) (T2 : TiOk E.P e ie info2 z2) (r : Rel G B w0 ρ s.heap w) (hG : G ≤ s.next) (hf : Fresh ρ s.next s'.next)
    {olds olds' xs news : List Value} (ho : All2 (V1 ρ) olds olds') (hn : All2 (V1 ρ) xs news) {base : Option Addr} {len cap n : Nat} {x' v : Value} (hold : (Builtin.firstCells info2.size len (.slice base len cap)).run E.P w.drew = .ok olds'.toArray w.drew) (hol : olds.length = len * ie.size)
    (hs : Src2 E.P info2 z2 xt x' n news w) (hg : cap < len + n) (h : appGrow ie.size ie.bytes olds len n xs s = .ok v s') :
    Gives G B w0 ρ s s' v ((Builtin.append_ #[st, xt] ty #[.slice base len cap, x']).run E.P w) := by
  obtain ⟨hc, h0⟩ := cond_ok h
  obtain ⟨id, s1, h1, h2⟩ := bind_ok h0
  obtain ⟨rfl, rfl⟩ := pure_ok h2
  obtain ⟨rfl, hb, he, hnx⟩ := newBlk_ok h1
  have hfr := hf s.next (Nat.le_refl _) (by omega)
  obtain ⟨h63, hfit⟩ := growOk_ok hc hg
  rw [T2.bytes] at hfit
  rw [T2.size] at hol
  have hrun := run_append_grow2 (P := E.P) (ty := ty) w st xt e info2 z2 (by rw [T.under, hu]) T2.inf T2.zero base len cap olds' hold x' n news hs hg h63 hfit
  have hzs : z2.cells.size = info2.size := by
    have := T2.zlen
    rw [T2.zcells, vcells_eq, T2.size] at this
    simpa using this
  have hge := grownCap_ge w (len + n) cap e
  have hl1 := ho.length
  have hl2 := hs.newsLen
  have htot : ((olds' ++ news) ++ (Builtin.zeroCells z2.cells (grownCap w (len + n) cap e - (len + n))).toList).length = grownCap w (len + n) cap e * info2.size := by
    simp only [List.length_append, Array.length_toList, zeroCells_length, hzs]
    rw [← hl1, hol, hl2, ← Nat.add_mul, ← Nat.add_mul]
    congr 1
    omega
  have hmul := Nat.mul_le_mul_right info2.size hge
  rw [Nat.add_mul] at hmul
  have r' := (r.drew).made (s := s) hG hfr hb (ho.append hn) ie.size (grownCap w (len + n) cap e * info2.size) [] (Builtin.zeroCells z2.cells (grownCap w (len + n) cap e - (len + n))).toList e (0, 0) (by simp) (by omega)
    (by have := hn.length; rw [List.length_append]; omega)
  refine ⟨_, _, (fun x => if x = s.next then some ⟨w.heap.size, 0, grownCap w (len + n) cap e * info2.size, ie.size⟩ else ρ x), hrun, Ext.one hfr hnx, ?_, VR.of0 ?_⟩
  · rw [he]
    have e1 : (olds' ++ news).toArray ++ Builtin.zeroCells z2.cells (grownCap w (len + n) cap e - (len + n)) = ⟨(olds' ++ news) ++ (Builtin.zeroCells z2.cells (grownCap w (len + n) cap e - (len + n))).toList⟩ := by
      apply Array.ext'
      simp
    rw [e1]
    exact r'
  · exact .sliceU (l := ⟨w.heap.size, 0, grownCap w (len + n) cap e * info2.size, ie.size⟩) (by simp) hge (by simp [T2.size])

theorem readOld (r : Rel G B w0 ρ s.heap w) {id off q : Nat} {c xs : List Value} {es : Nat} {own old : Bool} {par : List Nat} (hb : s.heap.get id = some (.cells c es own old par)) {l : Pl} (hl : ρ id = some l) (hw : window c off q = some xs) {size len cap : Nat} (hq : q = len * size) (a : Addr) (ha : len = 0 ∨ a = ⟨l.k, l.d + off, none⟩) :
    ∃ ys, All2 (V1 ρ) xs ys ∧ (Builtin.firstCells size len (.slice (some a) len cap)).run E.P w.drew = .ok ys.toArray w.drew := by
  obtain ⟨ys, hall, hlen, hc⟩ := r.reads hb hl hw
  refine ⟨ys, hall, run_firstCells_some w.drew size len a len cap ys (by omega) (fun j u hj => ?_)⟩
  have hj' : j < len * size := by rw [← hq, ← hlen]; exact (List.getElem?_eq_some_iff.1 hj).1
  have hn0 : len ≠ 0 := by rintro rfl; simp at hj'
  obtain rfl := ha.resolve_left hn0
  rw [addr_add]
  exact hc j u hj

theorem nil_of_src {i : TypeInfo} {z : Value} {n : Nat} {tx : TypeId} {x' : Value} {news : List Value} (hs : Src2 E.P i z tx x' n news w) (h0 : n = 0) : news = [] := by
  have := hs.newsLen
  subst h0
  simpa using this

theorem appKnown_gives (ok : EnvOk E G) {st xt e ty : TypeId} {i ie : TI} {info info2 : TypeInfo} {z z2 : Value} (T : TiOk E.P st i info z) (hu : i.under = .slice e) (T2 : TiOk E.P e ie info2 z2) (r : Rel G B w0 ρ s.heap w) (hG : G ≤ s.next) (hf : Fresh ρ s.next s'.next)
    {xs news : List Value} (hn : All2 (V1 ρ) xs news) {id off len c n : Nat} {y' x' v : Value} (hy : VR ρ (.slice (some ⟨id, off, none⟩) len (c + 1)) y') (hs : Src2 E.P info2 z2 xt x' n news w) (h : appKnown ie.size ie.bytes id off len c n xs s = .ok v s') :
    Gives G B w0 ρ s s' v ((Builtin.append_ #[st, xt] ty #[y', x']).run E.P w) := by
  obtain ⟨l, hl, rfl⟩ := hy.sliceK
  have hs' := hs
  have hst : E.P.underlying st = some (.slice e) := by rw [T.under, hu]
  unfold appKnown at h
  cases hc : Nat.ble (len + n) c with
  | true =>
    rw [hc] at h
    have hle := Nat.le_of_ble_eq_true hc
    cases h0 : Nat.beq n 0 with
    | true =>
      rw [h0] at h
      obtain ⟨rfl, rfl⟩ := pure_ok (show M.pure _ s = _ from h)
      have e0 := Nat.eq_of_beq_eq_true h0
      subst e0
      have := nil_of_src hs rfl
      subst this
      exact Gives.same r (run_append_nothing2 (ty := ty) w st xt e info2 z2 hst T2.inf T2.zero _ len c (by omega) x' hs') rfl (VR.of0 (.sliceK hl))
    | false =>
      rw [h0] at h
      obtain ⟨u, s1, h1, h2⟩ := bind_ok (show M.bind _ _ s = _ from h)
      obtain ⟨rfl, rfl⟩ := pure_ok h2
      obtain ⟨hnx, r', _, hth, hfr⟩ := writeAt_gives (E := E) r hl hn h1
      have hrun := run_append_room2 (P := E.P) (ty := ty) w st xt e info2 z2 hst T2.inf T2.zero l.k (l.d + off) len c x' n news hs' hle
        (fun j hj => by have := hth j hj; rw [T2.size, ← Nat.add_assoc] at this; exact this) (fun j hj => by have := hfr j hj; rw [T2.size, ← Nat.add_assoc] at this; exact this)
      refine ⟨_, _, ρ, hrun, Ext.refl _ _ _, ?_, VR.of0 (.sliceK hl)⟩
      rw [T2.size, ← Nat.add_assoc] at r'
      exact r'
  | false =>
    rw [hc] at h
    obtain ⟨olds, s1, h1, h2⟩ := bind_ok (show M.bind _ _ s = _ from h)
    obtain ⟨cs, es, own, old, par, hg, hw, he, hnx⟩ := readAt_ok h1
    have hlt : c < len + n := by
      cases Nat.lt_or_ge c (len + n) with
      | inl h => exact h
      | inr h => rw [Nat.ble_eq_true_of_le h] at hc; cases hc
    obtain ⟨ys, hall, hold⟩ := readOld (E := E) r hg hl hw (size := info2.size) (len := len) (cap := c) (by rw [T2.size]) ⟨l.k, l.d + off, none⟩ (.inr rfl)
    have := appGrow_gives (s := s1) (s' := s') ok T hu T2 (by rw [he]; exact r) (by rw [hnx]; exact hG) (by rw [hnx]; exact hf) hall hn hold (window_ok hw).2.2 hs hlt h2 (ty := ty)
    obtain ⟨v', w', ρ', g1, g2, g3, g4⟩ := this
    exact ⟨v', w', ρ', g1, by rw [← hnx]; exact g2, g3, g4⟩

theorem appUnknown_gives (ok : EnvOk E G) {st xt e ty : TypeId} {i ie : TI} {info info2 : TypeInfo} {z z2 : Value} (T : TiOk E.P st i info z) (hu : i.under = .slice e) (T2 : TiOk E.P e ie info2 z2) (r : Rel G B w0 ρ s.heap w) (hG : G ≤ s.next) (hf : Fresh ρ s.next s'.next)
    {xs news : List Value} (hn : All2 (V1 ρ) xs news) {id off len n : Nat} {y' x' v : Value} (hy : VR ρ (.slice (some ⟨id, off, none⟩) len 0) y') (hs : Src2 E.P info2 z2 xt x' n news w) (h : appUnknown ie.size ie.bytes id off len n xs s = .ok v s') :
    Gives G B w0 ρ s s' v ((Builtin.append_ #[st, xt] ty #[y', x']).run E.P w) := by
  have hst : E.P.underlying st = some (.slice e) := by rw [T.under, hu]
  have hs' := hs
  unfold appUnknown at h
  cases h0 : Nat.beq n 0 with
  | true =>
    rw [h0] at h
    obtain ⟨rfl, rfl⟩ := pure_ok (show M.pure _ s = _ from h)
    have e0 := Nat.eq_of_beq_eq_true h0
    subst e0
    have := nil_of_src hs rfl
    subst this
    obtain ⟨l, hl, hcase⟩ := hy.sliceU
    rcases hcase with ⟨cap, hle, hfin, rfl⟩ | ⟨rfl, a, rfl⟩
    · exact Gives.same r (run_append_nothing2 (ty := ty) w st xt e info2 z2 hst T2.inf T2.zero _ len cap hle x' hs') rfl hy
    · exact Gives.same r (run_append_nothing2 (ty := ty) w st xt e info2 z2 hst T2.inf T2.zero _ 0 0 (Nat.le_refl _) x' hs') rfl hy
  | false =>
    rw [h0] at h
    have hn0 : n ≠ 0 := Nat.ne_of_beq_eq_false h0
    obtain ⟨hgk, h1⟩ := cond_ok (show (bif _ then _ else M.fail) s = _ from h)
    obtain ⟨b, s1, h2, h3⟩ := bind_ok h1
    obtain ⟨hg, he, hnx⟩ := getBlk_ok h2
    cases b with
    | dead => cases h3
    | iter _ _ => cases h3
    | lp _ _ _ => cases h3
    | df => cases h3
    | cells c es own old par =>
      cases own with
      | false => cases h3
      | true =>
        cases old with
        | true => cases h3
        | false =>
          obtain ⟨hcc, h4⟩ := cond_ok h3
          simp only [Bool.and_eq_true] at hcc
          have hes := Nat.eq_of_beq_eq_true hcc.1
          have hle := Nat.le_of_ble_eq_true hcc.2
          subst hes
          have hwin : window c off (len * ie.size) = some ((c.drop off).take (len * ie.size)) := by unfold window; rw [hcc.2]; rfl
          have hol : ((c.drop off).take (len * ie.size)).length = len * ie.size := (window_ok hwin).2.2
          have hlen := hn.length
          have hnl := hs'.newsLen
          have hfr := hf s1.next (by omega)
          obtain ⟨l, hl, hcase⟩ := hy.sliceU
          -- what becomes of the elder ones, and the new block
          have key : ∀ (s2 : St) (par' : List Nat), s2.next = s1.next → (∀ x bx, s2.heap.get x = some bx → live bx = true → ∃ b0, s.heap.get x = some b0 ∧ Aged b0 bx ∧
                (∀ lx, ρ x = some lx → lx.k = l.k → ∃ cx ex ox px, bx = .cells cx ex ox true px ∧ x ∈ par' ∧ lx.d + cx.length ≤ l.d + off + len * ie.size)) →
              (Rel G B w0 ρ s2.heap w) →
              ((newBlk (.cells ((c.drop off).take (len * ie.size) ++ xs) ie.size true false par')).bind fun id' => M.pure (.slice (some ⟨id', 0, none⟩) (len + n) 0)) s2 = .ok v s' →
              Gives G B w0 ρ s s' v ((Builtin.append_ #[st, xt] ty #[y', x']).run E.P w) := by
            intro s2 par' hn2 helder r2 hmk
            obtain ⟨id', s3, g1, g2⟩ := bind_ok hmk
            obtain ⟨rfl, rfl⟩ := pure_ok g2
            obtain ⟨rfl, hb, he3, hn3⟩ := newBlk_ok g1
            have hfr2 : ρ s2.next = none := by rw [hn2]; exact hfr (by omega)
            have hne : s2.next ≠ id := by rintro rfl; rw [hl] at hfr2; cases hfr2
            have hnx2 : s2.next = s.next := by omega
            by_cases hroom : ∃ cap, len + n ≤ cap ∧ l.d + off + cap * l.es = l.fin ∧ y' = .slice (some ⟨l.k, l.d + off, none⟩) len cap
            · obtain ⟨cap, hcap, hfin, rfl⟩ := hroom
              obtain ⟨l', cr⟩ := r.blk id _ hg
              have : l' = l := by have := cr.at_; rw [hl] at this; cases this; rfl
              subst this
              have hes : l'.es = ie.size := cr.es_
              have hmul : (len + n) * ie.size ≤ cap * ie.size := Nat.mul_le_mul_right _ hcap
              rw [hes] at hfin
              rw [Nat.add_mul] at hmul
              rw [← T2.size] at hnl
              have hrun := run_append_room2 (P := E.P) (ty := ty) w st xt e info2 z2 hst T2.inf T2.zero l'.k (l'.d + off) len cap x' n news hs' hcap
                (fun j hj => cr.there _ (.inl (by rw [← T2.size]; omega))) (fun j hj => cr.free rfl _ (.inl (by rw [← T2.size]; omega)))
              have r' := r.appendIn hg hl hn hle (by omega) hfr2 (by omega) hne (h' := s'.heap) (par' := par') (by rw [he3, Abs.T.get_set _ _ _ _ hb, if_pos rfl])
                (fun x bx hx hbx hv => helder x bx (by rw [he3, Abs.T.get_set _ _ _ _ hb, if_neg hx] at hbx; exact hbx) hv)
              rw [← T2.size] at hrun
              refine ⟨_, _, _, hrun, ?_, r', VR.of0 (.sliceU (l := ⟨l'.k, l'.d + off, l'.fin, l'.es⟩) (by simp) hcap (by simp; rw [hes]; omega))⟩
              exact (Ext.one (ρ := ρ) (l := ⟨l'.k, l'.d + off, l'.fin, l'.es⟩) hfr2 hn3).widen (by omega)
            · have hgrow : ∃ a cap, y' = .slice (some a) len cap ∧ cap < len + n ∧ (len = 0 ∨ a = ⟨l.k, l.d + off, none⟩) := by
                rcases hcase with ⟨cap, hle', hfin, rfl⟩ | ⟨rfl, a, rfl⟩
                · refine ⟨_, cap, rfl, ?_, .inr rfl⟩
                  cases Nat.lt_or_ge cap (len + n) with
                  | inl h => exact h
                  | inr h => exact absurd ⟨cap, h, hfin, rfl⟩ hroom
                · exact ⟨a, 0, rfl, by omega, .inl rfl⟩
              obtain ⟨a, cap, rfl, hlt, ha⟩ := hgrow
              obtain ⟨ys, hall, hold⟩ := readOld (E := E) r hg hl hwin (size := info2.size) (len := len) (cap := cap) (by rw [T2.size]) a ha
              obtain ⟨h63, hfit⟩ := growOk_ok hgk hlt
              rw [T2.bytes] at hfit
              have hrun := run_append_grow2 (P := E.P) (ty := ty) w st xt e info2 z2 hst T2.inf T2.zero (some a) len cap ys hold x' n news hs' hlt h63 hfit
              have hzs : z2.cells.size = info2.size := by
                have := T2.zlen
                rw [T2.zcells, vcells_eq, T2.size] at this
                simpa using this
              have hge := grownCap_ge w (len + n) cap e
              have hl1 := hall.length
              have htot : ((ys ++ news) ++ (Builtin.zeroCells z2.cells (grownCap w (len + n) cap e - (len + n))).toList).length = grownCap w (len + n) cap e * info2.size := by
                simp only [List.length_append, Array.length_toList, zeroCells_length, hzs]
                rw [← hl1, hol, hnl, T2.size, ← Nat.add_mul, ← Nat.add_mul]
                congr 1
                omega
              have hmul := Nat.mul_le_mul_right info2.size hge
              rw [Nat.add_mul, ← T2.size] at hmul
              have r' := (r2.drew).made (s := s2) (by omega) hfr2 hb (hall.append hn) ie.size (grownCap w (len + n) cap e * info2.size) par' (Builtin.zeroCells z2.cells (grownCap w (len + n) cap e - (len + n))).toList e (0, 0) (by simp) (by omega)
                (by rw [List.length_append, hol, hlen, hnl, ← T2.size]; exact hmul)
              refine ⟨_, _, (fun x => if x = s2.next then some ⟨w.heap.size, 0, grownCap w (len + n) cap e * info2.size, ie.size⟩ else ρ x), hrun, ?_, ?_, VR.of0 ?_⟩
              rotate_left
              · rw [he3]
                have e1 : (ys ++ news).toArray ++ Builtin.zeroCells z2.cells (grownCap w (len + n) cap e - (len + n)) = ⟨(ys ++ news) ++ (Builtin.zeroCells z2.cells (grownCap w (len + n) cap e - (len + n))).toList⟩ := by
                  apply Array.ext'
                  simp
                rw [e1]
                exact r'
              · exact .sliceU (l := ⟨w.heap.size, 0, grownCap w (len + n) cap e * info2.size, ie.size⟩) (by simp) hge (by simp [T2.size])
              · exact (Ext.one (ρ := ρ) (l := ⟨w.heap.size, 0, grownCap w (len + n) cap e * info2.size, ie.size⟩) hfr2 hn3).widen (by omega)
          -- an elder block that may stand there is one of its elders
          have elder : ∀ x bx, x ≠ id → s.heap.get x = some bx → live bx = true → ∀ lx, ρ x = some lx → lx.k = l.k → ∃ cx ex ox px, bx = .cells cx ex ox true px ∧ x ∈ par ∧ lx.d + cx.length ≤ l.d + c.length := by
            intro x bx hx hbx hv lx hlx hk
            rcases r.sep x id bx _ lx l hx hbx hg hv rfl (.inr rfl) hlx hl hk with u | u
            · obtain ⟨ci, ei, oi, pi, cj, ej, oj, dj, pj, rfl, e2, u1, u2⟩ := under_cells u
              cases e2
              exact ⟨_, _, _, _, rfl, u1, u2⟩
            · obtain ⟨ci, ei, oi, pi, cj, ej, oj, dj, pj, e1, e2, u1, u2⟩ := under_cells u
              cases e1
          cases hin : Nat.ble (len + n) (room ie.size off len c.length) with
          | true =>
            rw [hin] at h4
            have hin := Nat.le_of_ble_eq_true hin
            obtain ⟨u, s2, g1, g2⟩ := bind_ok (show M.bind _ _ s1 = _ from h4)
            obtain ⟨rfl, rfl⟩ := pure_ok g2
            obtain ⟨l', cr⟩ := r.blk id _ hg
            have : l' = l := by have := cr.at_; rw [hl] at this; cases this; rfl
            subst this
            rcases hcase with ⟨cap, hle', hfin, rfl⟩ | ⟨rfl, a, rfl⟩
            · have hcap : len + n ≤ cap := Nat.le_trans hin (room_le (size := ie.size) (clen := c.length) hle' (by rw [← cr.es_]; exact hfin) cr.fits).2
              obtain ⟨hnx2, r', _, hth, hfrz⟩ := writeAt_gives (E := E) (s := s1) (by rw [he]; exact r) hl hn g1
              have hrun := run_append_room2 (P := E.P) (ty := ty) w st xt e info2 z2 hst T2.inf T2.zero l'.k (l'.d + off) len cap x' n news hs' hcap
                (fun j hj => by have := hth j hj; rw [T2.size, ← Nat.add_assoc] at this; exact this) (fun j hj => by have := hfrz j hj; rw [T2.size, ← Nat.add_assoc] at this; exact this)
              refine ⟨_, _, ρ, hrun, Ext.refl _ _ _, ?_, VR.of0 (.sliceU hl hcap hfin)⟩
              rw [T2.size, ← Nat.add_assoc] at r'
              exact r'
            · exfalso
              have e0 : room ie.size off 0 c.length = 0 := by
                unfold room
                rw [show (Nat.beq ie.size 0 || Nat.beq 0 0) = true by simp]
                rfl
              omega
          | false =>
          rw [hin] at h4
          rw [cond_false] at h4
          cases hx : Nat.beq (off + len * ie.size) c.length with
          | true =>
            rw [hx] at h4
            have hend := Nat.eq_of_beq_eq_true hx
            obtain ⟨u, s2, g1, g2⟩ := bind_ok (show M.bind _ _ s1 = _ from h4)
            obtain ⟨hb2, he2, hn2⟩ := putBlk_ok g1
            have hget : ∀ x, s2.heap.get x = if x = id then some (.cells c ie.size true true par) else s.heap.get x := fun x => by rw [he2, Abs.T.get_set _ _ _ _ hb2, he]
            refine key s2 (id :: par) hn2 (fun x bx hbx hv => ?_) ?_ g2
            · rw [hget] at hbx
              by_cases hxi : x = id
              · subst hxi
                rw [if_pos rfl] at hbx
                cases hbx
                refine ⟨_, hg, ⟨rfl, rfl, rfl, rfl, fun h => by cases h⟩, fun lx hlx hk => ⟨_, _, _, _, rfl, by simp, ?_⟩⟩
                rw [hl] at hlx; cases hlx
                omega
              · rw [if_neg hxi] at hbx
                refine ⟨bx, hbx, Aged.refl hv, fun lx hlx hk => ?_⟩
                obtain ⟨cx, ex, ox, px, e1, e2, e3⟩ := elder x bx hxi hbx hv lx hlx hk
                exact ⟨cx, ex, ox, px, e1, by simp [e2], by omega⟩
            · refine ⟨r.below, r.size, r.glob, fun x b hb => ?_, fun i j bi bj li lj hij hi hj vi vj ho ρi ρj hk => ?_⟩
              · rw [hget] at hb
                split at hb
                · rename_i e; subst e; cases hb; have hq := r.blk x _ hg; exact hq
                · exact r.blk x b hb
              · have ag : ∀ x bx, s2.heap.get x = some bx → live bx = true → ∃ b0, s.heap.get x = some b0 ∧ Aged b0 bx := by
                  intro x bx hbx hv
                  rw [hget] at hbx
                  split at hbx
                  · rename_i e; subst e; cases hbx; exact ⟨_, hg, rfl, rfl, rfl, rfl, fun h => by cases h⟩
                  · exact ⟨bx, hbx, Aged.refl hv⟩
                obtain ⟨b0, g0, a0⟩ := ag i bi hi vi
                obtain ⟨b1, g1, a1⟩ := ag j bj hj vj
                rcases r.sep i j b0 b1 li lj hij g0 g1 a0.own.2.1 a1.own.2.1 (by rw [← a0.own.1, ← a1.own.1]; exact ho) ρi ρj hk with u | u
                · exact .inl (a0.under a1 u)
                · exact .inr (a1.under a0 u)
          | false =>
            rw [hx] at h4
            obtain ⟨u, s2, g1, g2⟩ := bind_ok (show M.bind _ _ s1 = _ from h4)
            obtain ⟨hn2, hk2⟩ := killAll_ok _ g1
            rw [he] at hk2
            refine key s2 [] hn2 (fun x bx hbx hv => ?_) ?_ g2
            · rw [hk2] at hbx
              by_cases hxi : x ∈ id :: par
              · rw [if_pos hxi] at hbx; cases hbx; cases hv
              · rw [if_neg hxi] at hbx
                refine ⟨bx, hbx, Aged.refl hv, fun lx hlx hk => ?_⟩
                obtain ⟨cx, ex, ox, px, e1, e2, e3⟩ := elder x bx (fun e => hxi (by simp [e])) hbx hv lx hlx hk
                exact absurd (by simp [e2]) hxi
            · refine r.kill fun x => ?_
              rw [hk2]
              by_cases hxi : x ∈ id :: par
              · exact .inr (if_pos hxi)
              · exact .inl (if_neg hxi)
end
end Go.Abs

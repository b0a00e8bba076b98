/- Each operation of the evaluator does what the model's operation does: strings, made slices, iterators, builtins. -/
import Derived.Test.YtffgakphodjbjaaGreatDoorRotOps3
set_option linter.unusedVariables false
set_option linter.unusedSimpArgs false
namespace Go.Abs
open Go.RowKit
section
variable {E : Env} {G B : Nat} {w0 w : World} {ρ : Ren} {s s' : St}

theorem extract_list (s : ByteArray) (l h : Nat) (hh : h ≤ s.data.toList.length) : s.extract l h = ⟨⟨(s.data.toList.drop l).take (h - l)⟩⟩ := by
  apply ByteArray.ext
  rw [ByteArray.data_extract]
  apply Array.ext'
  simp [List.extract_eq_take_drop]

theorem strSlice_gives (ok : EnvOk E G) (r : Rel G B w0 ρ s.heap w) {t : TypeId} {b : ByteArray} {lo hi mx lo' hi' mx' : Option Value} (h1 : OptVR ρ lo lo') (h2 : OptVR ρ hi hi') (h3 : OptVR ρ mx mx') {v : Value} (h : strSlice E t b lo hi mx = some v) :
    Gives G B w0 ρ s s v ((Instr.sliceAt t (.string b) lo' hi' mx').run E.P w) := by
  unfold strSlice at h
  split at h
  · rename_i hu
    have ht := under?_ok ok hu
    split at h
    · have h3' : mx' = none := by
        rcases h3 with ⟨_, e⟩ | ⟨_, _, e, _⟩
        · exact e
        · cases e
      subst h3'
      split at h
      · rename_i l hh m hb
        cases h
        obtain ⟨hrun, d1, d2, d3⟩ := boundsA_run (ρ := ρ) (P := E.P) (w := w) false h1 h2 (.inl ⟨rfl, rfl⟩) hb
        have e1 : b.data.toList.length = b.size := by simp
        rw [e1] at hrun
        refine Gives.same r (v' := .string (b.extract l hh)) ?_ rfl (by rw [extract_list b l hh (by omega)]; exact VR.of_plain rfl)
        simp [Instr.sliceAt, Instr.slice, run_underlying ht, hrun]
      · cases h
    · cases h
  · cases h

theorem strIndex_gives (ok : EnvOk E G) (r : Rel G B w0 ρ s.heap w) {t : TypeId} {b : ByteArray} {ix ix' v : Value} (hi : VR ρ ix ix') (h : strIndex E t b ix = some v) : Gives G B w0 ρ s s v ((Instr.index t (.string b) ix').run E.P w) := by
  unfold strIndex at h
  split at h
  · rename_i hu
    have ht := under?_ok ok hu
    split at h
    · rename_i k hk
      obtain ⟨kd, rfl⟩ := natA_ok hk
      rw [hi.int]
      split at h
      · rename_i c hc
        cases h
        refine Gives.same r (v' := .int .u8 c.toNat) ?_ rfl (VR.of_plain rfl)
        have hc' : b[k]? = some c := by
          have h1 : k < b.data.size := by
            have := (List.getElem?_eq_some_iff.1 hc).1
            simpa using this
          have h2 : b.data[k] = c := by
            have := (List.getElem?_eq_some_iff.1 hc).2
            simpa using this
          have h3 : k < b.size := h1
          rw [getElem?_pos b k h3]
          exact congrArg some h2
        simp [Instr.index, asIntOf, run_underlying ht, hc']
      · cases h
    · cases h
  · cases h

theorem convA_gives (ok : EnvOk E G) (r : Rel G B w0 ρ s.heap w) {src dst : TypeId} {x x' v : Value} (hx : VR ρ x x') (h : convA E src dst x = some v) : Gives G B w0 ρ s s v ((convert src dst x').run E.P w) := by
  unfold convA at h
  split at h
  · cases h
  · rename_i d hd
    have hs := under?_ok ok hd
    split at h
    · rename_i k n
      rw [hx.int]
      split at h
      · rename_i q hq
        cases h
        have ht := under?_ok ok hq
        refine Gives.same r (v' := .int q (q.wrap n)) ?_ rfl (by rw [wrapA_eq]; exact VR.of_plain rfl)
        simp [convert, run_underlying hs, run_underlying ht, Conv.intToInt]
      · rename_i hq
        cases h
        have ht := under?_ok ok hq
        refine Gives.same r (v' := .string (Utf8.encode n)) ?_ rfl (VR.of_plain rfl)
        simp [convert, run_underlying hs, run_underlying ht, Conv.intToString]
      · cases h
    · rename_i b
      rw [hx.str]
      split at h
      · rename_i hq
        cases h
        have ht := under?_ok ok hq
        refine Gives.same r (v' := .string b) ?_ rfl (VR.of_plain rfl)
        simp [convert, run_underlying hs, run_underlying ht]
      · cases h
    · cases h

theorem bytesA_gives (ok : EnvOk E G) (r : Rel G B w0 ρ s.heap w) (hG : G ≤ s.next) (hf : Fresh ρ s.next s'.next) {src dst : TypeId} {b : ByteArray} {v : Value} (h : bytesA E src dst b s = .ok v s') : Gives G B w0 ρ s s' v ((convert src dst (.string b)).run E.P w) := by
  unfold bytesA at h
  cases hu : under? E src with
  | none => rw [hu] at h; cases h
  | some d1 =>
   rw [hu] at h
   cases d1 with
   | string =>
    have h1 := under?_ok ok hu
    cases hu2 : under? E dst with
    | none => rw [hu2] at h; cases h
    | some d2 =>
     rw [hu2] at h
     cases d2 with
     | slice e =>
      have h2 := under?_ok ok hu2
      dsimp only at h
      cases hu3 : under? E e with
      | none => rw [hu3] at h; cases h
      | some d3 =>
       rw [hu3] at h
       rcases d3 with _ | _ | (_ | _ | _ | _ | _ | _ | _ | _) | _ | _ | _ | _ | _ | _ | _ | _ | _ | _ | _ | _ | _ | _
       all_goals first | (cases h; done) | skip
       · have h3 := under?_ok ok hu3
         obtain ⟨id, s1, g1, g2⟩ := bind_ok h
         obtain ⟨rfl, rfl⟩ := pure_ok g2
         obtain ⟨rfl, hb, he, hn⟩ := newBlk_ok g1
         have hfr := hf s.next (Nat.le_refl _) (by omega)
         have hge := grownCap_ge w b.size 0 e
         have hlen : b.data.toList.length = b.size := by simp
         have hrun := run_bytes_of_string (P := E.P) w src dst e b h1 h2 h3
         have hrow : bytesRow b (grownCap w b.size 0 e) = ⟨(b.data.toList.map fun c => Value.int .u8 c.toNat) ++ List.replicate (grownCap w b.size 0 e - b.size) (.int .u8 0)⟩ := by
           apply Array.ext'
           simp [bytesRow]
         have htot : ((b.data.toList.map fun (c : UInt8) => Value.int .u8 c.toNat) ++ List.replicate (grownCap w b.size 0 e - b.size) (Value.int .u8 0)).length = grownCap w b.size 0 e := by
           rw [List.length_append, List.length_map, List.length_replicate, hlen]
           omega
         have r' := (r.drew).made (s := s) hG hfr hb (c := b.data.toList.map fun c => Value.int .u8 c.toNat) (c' := b.data.toList.map fun c => Value.int .u8 c.toNat) (all2_plain (List.all_eq_true.2 fun v hv => by
             obtain ⟨c, _, rfl⟩ := List.mem_map.1 hv
             rfl)) 1 (grownCap w b.size 0 e) [] (List.replicate (grownCap w b.size 0 e - b.size) (.int .u8 0)) e (grownCap w b.size 0 e, grownCap w b.size 0 e + 1) (fun j hj => by rw [htot] at hj; dsimp only; omega) (by omega) (by rw [List.length_map]; omega)
         refine ⟨_, _, (fun x => if x = s.next then some ⟨w.heap.size, 0, grownCap w b.size 0 e, 1⟩ else ρ x), hrun, Ext.one hfr hn, ?_, VR.of0 ?_⟩
         · rw [he, hrow]
           have e2 : (Array.mk ((b.data.toList.map fun (c : UInt8) => Value.int .u8 c.toNat) ++ List.replicate (grownCap w b.size 0 e - b.size) (Value.int .u8 0))).size = grownCap w b.size 0 e := htot
           rw [e2]
           exact r'
         · rw [hlen]
           exact .sliceU (l := ⟨w.heap.size, 0, grownCap w b.size 0 e, 1⟩) (by simp) hge (by simp)
     | _ => cases h
   | _ => cases h

theorem toStr_ok : ∀ (c : List Value) (acc : List UInt8) {b : ByteArray}, toStr c acc = some b → ∃ xs : List Int, c = xs.map (Value.int .u8) ∧ b = ⟨⟨acc.reverse ++ xs.map fun n => UInt8.ofNat n.toNat⟩⟩
  | [], acc, b, h => by cases h; exact ⟨[], rfl, by simp⟩
  | v :: c, acc, b, h => by
    rcases v with _ | ⟨k, n⟩ | _ | _ | _ | _ | _ | _ | _ | _ | _ | _ | _ | _ | _
    all_goals first | (cases h; done) | skip
    cases k
    all_goals first | (cases h; done) | skip
    simp only [toStr] at h
    obtain ⟨xs, h1, h2⟩ := toStr_ok c _ h
    refine ⟨n :: xs, by rw [h1]; rfl, by rw [h2]; simp⟩

theorem stringA_gives (ok : EnvOk E G) (r : Rel G B w0 ρ s.heap w) {src dst : TypeId} {x x' v : Value} (hx : VR ρ x x') (h : stringA E src dst x s = .ok v s') : Gives G B w0 ρ s s' v ((convert src dst x').run E.P w) := by
  unfold stringA at h
  cases hu : under? E src with
  | none => rw [hu] at h; cases h
  | some d1 =>
   rw [hu] at h
   cases d1 with
   | slice e =>
    have h1 := under?_ok ok hu
    cases hu2 : under? E dst with
    | none => rw [hu2] at h; cases h
    | some d2 =>
     rw [hu2] at h
     cases d2 with
     | string =>
      have h2 := under?_ok ok hu2
      dsimp only at h
      cases hu3 : under? E e with
      | none => rw [hu3] at h; cases h
      | some d3 =>
       rw [hu3] at h
       rcases d3 with _ | _ | (_ | _ | _ | _ | _ | _ | _ | _) | _ | _ | _ | _ | _ | _ | _ | _ | _ | _ | _ | _ | _ | _
       all_goals first | (cases h; done) | skip
       · have h3 := under?_ok ok hu3
         rcases x with _ | _ | _ | _ | _ | _ | ⟨(_ | ⟨id, off, (_ | _)⟩), n, cap⟩ | _ | _ | _ | _ | _ | _ | _ | _
         all_goals first | (cases h; done) | skip
         · cases n with
           | succ _ => cases h
           | zero =>
             cases cap with
             | succ _ => cases h
             | zero =>
               obtain ⟨rfl, rfl⟩ := pure_ok (show M.pure _ s = _ from h)
               rw [hx.plain_eq rfl]
               exact Gives.same r (run_convert_bytes_nil w src e h1 h3 0 0 dst h2) rfl (VR.of_plain rfl)
         · obtain ⟨c, s1, g1, g2⟩ := bind_ok (show M.bind _ _ s = _ from h)
           obtain ⟨str, s2, g3, g4⟩ := bind_ok g2
           obtain ⟨hstr, rfl⟩ := of_ok g3
           obtain ⟨rfl, rfl⟩ := pure_ok g4
           obtain ⟨cs, es, own, old, par, hg, hw, he, hn⟩ := readAt_ok g1
           obtain ⟨l, a, cap', hl, rfl, ha⟩ := hx.slice
           obtain ⟨ys, hall, hlen, hc⟩ := r.reads hg hl hw
           obtain ⟨xs, rfl, rfl⟩ := toStr_ok c [] hstr
           have hys : ys = xs.map (Value.int .u8) :=
             all2_plain_eq (ρ := ρ) (R := V1 ρ) (p := plain1) (fun _ _ h hp => V1.plain_eq h hp) hall (List.all_eq_true.2 fun v hv => by
               obtain ⟨c, _, rfl⟩ := List.mem_map.1 hv
               rfl)
           subst hys
           have hxl : xs.length = n := by simpa using hlen
           refine Gives.same r (v' := .string (strOfNums xs)) ?_ he (VR.of_plain rfl)
           rcases Nat.eq_zero_or_pos n with h0 | h0
           · subst h0
             have : xs = [] := List.eq_nil_of_length_eq_zero hxl
             subst this
             obtain ⟨ab, ao, asp⟩ := a
             simp [convert, run_underlying h1, run_underlying h2, run_underlying h3, Conv.bytesToString, loadCells, loadCellsFrom, strOfNums]
             rfl
           · obtain rfl := ha.resolve_left (by omega)
             refine run_convert_bytes_arg w src e h1 h3 l.k (l.d + off) n cap' xs hxl (fun i hi => ?_) dst h2
             refine hc i _ ?_
             rw [List.getElem?_map, List.getD_eq_getElem?_getD, List.getElem?_eq_getElem (by omega)]
             simp
     | _ => cases h
   | _ => cases h

theorem makeSliceA_gives (ok : EnvOk E G) (r : Rel G B w0 ρ s.heap w) (hG : G ≤ s.next) (hf : Fresh ρ s.next s'.next) {t : TypeId} {l c : Nat} {kl kc : IntKind} {v : Value} (h : makeSliceA E t l c s = .ok v s') :
    Gives G B w0 ρ s s' v ((Instr.makeSlice t (.int kl l) (.int kc c)).run E.P w) := by
  obtain ⟨i, s1, g1, g2⟩ := bind_ok h
  obtain ⟨rfl, info, z, T⟩ := tinfo_ok ok g1
  cases hu : i.under with
  | slice e =>
    rw [hu] at g2
    obtain ⟨j, s2, g3, g4⟩ := bind_ok g2
    obtain ⟨rfl, info2, z2, T2⟩ := tinfo_ok ok g3
    obtain ⟨hc, g5⟩ := cond_ok g4
    simp only [Bool.and_eq_true] at hc
    have c1 := Nat.le_of_ble_eq_true hc.1
    have c2 := Nat.le_of_ble_eq_true hc.2.1
    have c3 := Nat.le_of_ble_eq_true hc.2.2
    obtain ⟨id, s3, g6, g7⟩ := bind_ok g5
    obtain ⟨rfl, rfl⟩ := pure_ok g7
    obtain ⟨rfl, hb, he, hn⟩ := newBlk_ok g6
    have hfr := hf s2.next (Nat.le_refl _) (by omega)
    have hby : (info2.bytes : Int) * (c : Int) ≤ 281474976710656 := by
      rw [T2.bytes] at c3
      have : info2.bytes * c ≤ 1000000 * 1000000 := Nat.mul_le_mul c3 c2
      have h4 : ((info2.bytes * c : Nat) : Int) ≤ 281474976710656 := by omega
      rwa [Int.natCast_mul] at h4
    have hrun := run_make (P := E.P) w t e info2 z2 (by rw [T.under, hu]) T2.inf T2.zero kl kc (l : Int) (c : Int) (by omega) (by omega) hby (by omega)
    simp only [Int.toNat_natCast] at hrun
    have hzs : z2.cells.size = info2.size := by
      have := T2.zlen
      rw [T2.zcells, vcells_eq, T2.size] at this
      simpa using this
    have hall : All2 (V1 ρ) (repeatA j.zero c) (madeCells z2.cells (c * info2.size)).toList := by
      rw [← hzs, repeatA_made, T2.zcells, vcells_eq]
      refine all2_plain (repeatA_plain ?_ c)
      have := T2.zplain
      rwa [T2.zcells, vcells_eq] at this
    have r' := r.made hG hfr hb hall j.size (repeatA j.zero c).length [] [] e (0, 0) (by simp) (by simp [hall.length]) (Nat.le_refl _)
    simp only [List.append_nil] at r'
    refine ⟨_, _, _, hrun, Ext.one hfr hn, by rw [he]; exact r', VR.of0 (.sliceK (l := ⟨w.heap.size, 0, (repeatA j.zero c).length, j.size⟩) (by simp))⟩
  | _ => rw [hu] at g2; cases g2

theorem lenA_gives (ok : EnvOk E G) (r : Rel G B w0 ρ s.heap w) {ats : Array TypeId} {x x' v : Value} {xs : List Value} (hx : VR ρ x x') (ty : TypeId) (h : lenA E ats.toList x = some v) : Gives G B w0 ρ s s v ((Builtin.len_ ats ty ⟨x' :: xs⟩).run E.P w) := by
  obtain ⟨ats⟩ := ats
  unfold lenA at h
  split at h
  · rename_i t ts heq
    dsimp only at heq
    subst heq
    split at h
    · rename_i hu
      have ht := under?_ok ok hu
      split at h
      · rename_i b
        cases h
        rw [hx.str]
        refine Gives.same r (v' := goInt b.size) ?_ rfl (by rw [show b.data.toList.length = b.size by simp]; exact VR.of_plain rfl)
        simp [Builtin.len_, run_underlying ht]
      · cases h
    · rename_i e hu
      have ht := under?_ok ok hu
      split at h
      · rename_i a n c
        cases h
        have h0 := hx.to0 (by simp) (by simp) (by simp)
        refine Gives.same r (v' := goInt n) ?_ rfl (VR.of_plain rfl)
        cases h0 <;> simp [Builtin.len_, run_underlying ht]
      · cases h
    · rename_i n e hu
      have ht := under?_ok ok hu
      cases h
      refine Gives.same r (v' := goInt n) ?_ rfl (VR.of_plain rfl)
      simp [Builtin.len_, run_underlying ht]
    · cases h
  · cases h

theorem capA_gives (ok : EnvOk E G) (r : Rel G B w0 ρ s.heap w) {ats : Array TypeId} {x x' v : Value} {xs : List Value} (hx : VR ρ x x') (ty : TypeId) (h : capA E ats.toList x = some v) : Gives G B w0 ρ s s v ((Builtin.cap_ ats ty ⟨x' :: xs⟩).run E.P w) := by
  obtain ⟨ats⟩ := ats
  unfold capA at h
  split at h
  · rename_i t ts heq
    dsimp only at heq
    subst heq
    split at h
    · rename_i e hu
      have ht := under?_ok ok hu
      split at h
      · rename_i id off n c
        cases h
        obtain ⟨l, hl, rfl⟩ := hx.sliceK
        refine Gives.same r (v' := goInt c) ?_ rfl (VR.of_plain rfl)
        simp [Builtin.cap_, run_underlying ht]
      · cases h
        rw [hx.plain_eq rfl]
        refine Gives.same r (v' := goInt 0) ?_ rfl (VR.of_plain rfl)
        simp [Builtin.cap_, run_underlying ht]
      · cases h
    · cases h
  · cases h

theorem nextA_gives (r : Rel G B w0 ρ s.heap w) {x x' v : Value} (hx : VR ρ x x') (ty : TypeId) (h : nextA x s = .ok v s') : Gives G B w0 ρ s s' v ((Instr.next x' true ty).run E.P w) := by
  unfold nextA at h
  split at h
  · rename_i id
    obtain ⟨b, s1, g1, g2⟩ := bind_ok h
    obtain ⟨hg, he, hn⟩ := getBlk_ok g1
    cases b with
    | iter str pos =>
      obtain ⟨l, hl, rfl⟩ := hx.ptr
      obtain ⟨l', h1, h2, h3, h4, h5⟩ := r.blk id _ hg
      have : l' = l := by rw [hl] at h1; cases h1; rfl
      subst this
      have hlen : str.data.toList.length = str.size := by simp
      dsimp only at g2
      cases hc : Nat.blt pos str.data.toList.length with
      | false =>
        rw [hc] at g2
        obtain ⟨rfl, rfl⟩ := pure_ok (show M.pure _ s1 = _ from g2)
        have hnot : ¬ pos < str.size := by
          intro h'
          rw [hlen] at hc
          rw [← Nat.blt_eq, hc] at h'
          cases h'
        refine Gives.same r (v' := .tuple #[.bool false]) ?_ he (VR.of_plain rfl)
        rw [h2, Nat.zero_add]
        simp [Instr.next, getObj, Sem.run, h5, hnot]
      | true =>
        rw [hc] at g2
        have hlt : pos < str.size := by rw [hlen, Nat.blt_eq] at hc; exact hc
        obtain ⟨u, s2, g3, g4⟩ := bind_ok (show M.bind _ _ s1 = _ from g2)
        obtain ⟨rfl, rfl⟩ := pure_ok g4
        obtain ⟨hb, he2, hn2⟩ := putBlk_ok g3
        refine ⟨.tuple #[.bool true, .int .i64 pos, .int .i32 (Utf8.decode str pos).1], { w with heap := w.heap.setIfInBounds l'.k (.stringIter str (pos + (Utf8.decode str pos).2)) }, ρ, ?_, Ext.refl _ _ _, ?_, VR.of_plain rfl⟩
        · rw [h2, Nat.zero_add]
          simp [Instr.next, getObj, setObj, Sem.run, h5, hlt, goInt]
        · have hset : ∀ k, (w.heap.setIfInBounds l'.k (.stringIter str (pos + (Utf8.decode str pos).2)))[k]? = if k = l'.k then some (.stringIter str (pos + (Utf8.decode str pos).2)) else w.heap[k]? := by
            intro k
            rw [Array.getElem?_setIfInBounds]
            by_cases e : l'.k = k
            · subst e; simp [h4]
            · rw [if_neg e, if_neg (fun h => e h.symm)]
          have hget : ∀ x, s'.heap.get x = if x = id then some (.iter str (pos + (Utf8.decode str pos).2)) else s.heap.get x := fun x => by rw [he2, Abs.T.get_set _ _ _ _ hb, he]
          have far : ∀ x b, x ≠ id → s.heap.get x = some b → live b = true → ∀ lx, ρ x = some lx → lx.k ≠ l'.k := by
            intro x b hx hb hv lx hlx hk
            rcases r.sep x id b _ lx l' hx hb hg hv rfl (.inr rfl) hlx hl hk with u | u
            · obtain ⟨_, _, _, _, _, _, _, _, _, _, e2, _⟩ := under_cells u; cases e2
            · obtain ⟨_, _, _, _, _, _, _, _, _, e1, _⟩ := under_cells u; cases e1
          refine ⟨⟨r.below.os, r.below.tape, r.below.output, ?_, fun k hk => ?_⟩, ?_, r.glob, fun x b hbx => ?_, fun i j bi bj li lj hij hi hj vi vj ho ρi ρj hk => ?_⟩
          · simp; exact r.below.size
          · show (w.heap.setIfInBounds _ _)[k]? = _
            rw [hset, if_neg (by omega)]
            exact r.below.block k hk
          · simp; exact r.size
          · rw [hget] at hbx
            by_cases e : x = id
            · subst e
              rw [if_pos rfl] at hbx
              cases hbx
              refine ⟨l', hl, h2, h3, by simp; exact h4, ?_⟩
              show (w.heap.setIfInBounds _ _)[l'.k]? = _
              rw [hset, if_pos rfl]
            · rw [if_neg e] at hbx
              cases hv : live b with
              | false => cases b <;> first | trivial | cases hv
              | true =>
                refine (r.blk x b hbx).mono (fun _ _ h => h) (by simp) (fun lx hlx _ => ?_)
                show (w.heap.setIfInBounds _ _)[lx.k]? = _
                rw [hset, if_neg (far x b e hbx hv lx hlx)]
          · rw [hget] at hi hj
            by_cases e : i = id
            · subst e
              rw [if_neg (Ne.symm hij)] at hj
              rw [hl] at ρi; cases ρi
              exact absurd hk.symm (far j bj (Ne.symm hij) hj vj lj ρj)
            · rw [if_neg e] at hi
              by_cases e' : j = id
              · subst e'
                rw [hl] at ρj; cases ρj
                exact absurd hk (far i bi e hi vi li ρi)
              · rw [if_neg e'] at hj
                exact r.sep i j bi bj li lj hij hi hj vi vj ho ρi ρj hk
    | _ => cases g2
  · cases h

theorem run_firstCells_at (P : Program) (w : World) (size n : Nat) (a : Addr) (len cap : Nat) (ys : List Value) (hl : ys.length = n * size) (h : ∀ j u, ys[j]? = some u → w.cell? (a.add j) = some u) :
    (Builtin.firstCells size n (.slice (some a) len cap)).run P w = .ok ⟨ys⟩ w := by
  have := run_loadCells_list (P := P) w a ys h
  rw [hl] at this
  exact this

theorem copyB_gives (ok : EnvOk E G) (r : Rel G B w0 ρ s.heap w) {ats : Array TypeId} {st : TypeId} {sts : List TypeId} (hats : ats.toList = st :: sts) {d d' x x' v : Value} {xs : List Value} (hd : VR ρ d d') (hx : VR ρ x x') (ty : TypeId) (h : copyB E st d x s = .ok v s') (hs : s'.next = s.next → True) :
    Gives G B w0 ρ s s' v ((Builtin.copy_ ats ty ⟨d' :: x' :: xs⟩).run E.P w) := by
  obtain ⟨ats⟩ := ats
  dsimp only at hats
  subst hats
  unfold copyB at h
  rcases d with _ | _ | _ | _ | _ | _ | ⟨(_ | ⟨id, off, (_ | _)⟩), dl, cap⟩ | _ | _ | _ | _ | _ | _ | _ | _
  all_goals first | (cases h; done) | skip
  dsimp only at h
  cases hu : under? E st with
  | none => rw [hu] at h; cases h
  | some dsc =>
    rw [hu] at h
    cases dsc with
    | slice e =>
      have ht := under?_ok ok hu
      obtain ⟨ie, s1, g1, g2⟩ := bind_ok h
      obtain ⟨rfl, info, z, T⟩ := tinfo_ok ok g1
      obtain ⟨nc, s2, g3, g4⟩ := bind_ok g2
      obtain ⟨u, s3, g5, g6⟩ := bind_ok g4
      obtain ⟨rfl, rfl⟩ := pure_ok g6
      obtain ⟨l, a, cap', hl, rfl, ha⟩ := hd.slice
      -- the source
      have hsrc : s2.heap = s1.heap ∧ s2.next = s1.next ∧ ∃ ys n, All2 (V1 ρ) nc.2 ys ∧ nc.1 = Nat.min n dl ∧ (Builtin.lenOf x').run E.P w = .ok n w ∧ (Builtin.firstCells ie.size (Nat.min n dl) x').run E.P w = .ok ⟨ys⟩ w ∧ ys.length = Nat.min n dl * ie.size := by
        unfold srcTake at g3
        split at g3
        · obtain ⟨rfl, rfl⟩ := pure_ok g3
          rw [hx.plain_eq rfl]
          refine ⟨rfl, rfl, [], 0, .nil, by simp, by simp [Builtin.lenOf], by simp [Builtin.firstCells], by simp⟩
        · rename_i id2 off2 n c2
          obtain ⟨c, s4, k1, k2⟩ := bind_ok g3
          obtain ⟨rfl, rfl⟩ := pure_ok k2
          obtain ⟨cs, es, own, old, par, hg, hw, he, hn⟩ := readAt_ok k1
          obtain ⟨l2, a2, cap2, hl2, rfl, ha2⟩ := hx.slice
          obtain ⟨ys, hall, hlen, hc⟩ := r.reads hg hl2 hw
          refine ⟨he, hn, ys, n, hall, rfl, by simp [Builtin.lenOf], run_firstCells_at E.P w ie.size _ a2 n cap2 ys hlen (fun j u hj => ?_), hlen⟩
          have hj' : j < Nat.min n dl * ie.size := by rw [← hlen]; exact (List.getElem?_eq_some_iff.1 hj).1
          have hn0 : n ≠ 0 := by rintro rfl; simp at hj'
          obtain rfl := ha2.resolve_left hn0
          rw [addr_add]
          exact hc j u hj
        · cases g3
      obtain ⟨he2, hn2, ys, n, hall, hnc, hlenof, hfirst, hyl⟩ := hsrc
      obtain ⟨hnx, r', hst, _, _⟩ := writeAt_gives (E := E) (s := s2) (by rw [he2]; exact r) hl hall g5
      refine ⟨goInt nc.1, w.setCells l.k (l.d + off) ys, ρ, ?_, Ext.refl _ _ _, r', VR.of_plain rfl⟩
      have hstore : (storeCells a ys).run E.P w = .ok () (w.setCells l.k (l.d + off) ys) := by
        rcases ha with h0 | rfl
        · have : ys = [] := by
            apply List.eq_nil_of_length_eq_zero
            rw [hyl, h0]
            simp
          subst this
          rfl
        · exact hst
      simp only [Builtin.copy_, List.getElem?_toArray, Array.getElem?_eq_getElem]
      simp [run_underlying ht, hlenof, T.run_size, hfirst, hstore, hnc]
    | _ => cases h

theorem clearB_gives (ok : EnvOk E G) (r : Rel G B w0 ρ s.heap w) {ats : Array TypeId} {st : TypeId} {sts : List TypeId} (hats : ats.toList = st :: sts) {x x' v : Value} {xs : List Value} (hx : VR ρ x x') (ty : TypeId) (h : clearB E st x s = .ok v s') :
    Gives G B w0 ρ s s' v ((Builtin.clear_ ats ty ⟨x' :: xs⟩).run E.P w) := by
  obtain ⟨ats⟩ := ats
  dsimp only at hats
  subst hats
  unfold clearB at h
  obtain ⟨i, s1, g1, g2⟩ := bind_ok h
  obtain ⟨rfl, info, z, T⟩ := tinfo_ok ok g1
  generalize hu : i.under = d at g2
  split at g2
  · rename_i e
    obtain ⟨ie, s2, g3, g4⟩ := bind_ok g2
    obtain ⟨rfl, info2, z2, T2⟩ := tinfo_ok ok g3
    have ht : E.P.underlying st = some (.slice e) := by rw [T.under, hu]
    split at g4
    · obtain ⟨rfl, rfl⟩ := pure_ok g4
      rw [hx.plain_eq rfl]
      refine Gives.same r (v' := undef) ?_ rfl VR.undef
      simp [Builtin.clear_, run_underlying ht, undef]
    · rename_i id off n cap
      obtain ⟨u, s3, g5, g6⟩ := bind_ok g4
      obtain ⟨rfl, rfl⟩ := pure_ok g6
      obtain ⟨l, a, cap', hl, rfl, ha⟩ := hx.slice
      have hzs : z2.cells.size = info2.size := by
        have := T2.zlen
        rw [T2.zcells, vcells_eq, T2.size] at this
        simpa using this
      have hz : All2 (V1 ρ) (repeatA ie.zero n) (Builtin.zeroCells z2.cells n).toList := by
        have e : (Builtin.zeroCells z2.cells n).toList = repeatA ie.zero n := by
          rw [T2.zcells, vcells_eq]
          exact repeatA_made _ _
        rw [e]
        exact all2_plain (repeatA_plain T2.zplain n)
      obtain ⟨hnx, r', hst, _, _⟩ := writeAt_gives (E := E) (s := s2) r hl hz g5
      refine ⟨undef, w.setCells l.k (l.d + off) (Builtin.zeroCells z2.cells n).toList, ρ, ?_, Ext.refl _ _ _, r', VR.undef⟩
      rcases Nat.eq_zero_or_pos n with h0 | h0
      · subst h0
        have : (Builtin.zeroCells z2.cells 0).toList = [] := by simp [Builtin.zeroCells]
        rw [this]
        simp [Builtin.clear_, run_underlying ht, undef]
        rfl
      · obtain rfl := ha.resolve_left (by omega)
        have hne : n ≠ 0 := by omega
        simp [Builtin.clear_, run_underlying ht, T2.run_zero, undef, hst, hne]
    · cases g4
  · cases g2
end
end Go.Abs

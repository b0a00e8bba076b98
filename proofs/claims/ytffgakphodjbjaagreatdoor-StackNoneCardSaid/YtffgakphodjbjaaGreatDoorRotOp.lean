/- One operation, all forms together. -/
import Derived.Test.YtffgakphodjbjaaGreatDoorRotOps4
import Derived.Test.YtffgakphodjbjaaGreatDoorRotOps5
set_option linter.unusedVariables false
set_option linter.unusedSimpArgs false
namespace Go.Abs
open Go.RowKit

theorem capOk_ok {ρ : Ren} {v v' : Value} (h : VR ρ v v') (hc : capOk v = true) : V0 ρ v v' := by
  unfold capOk at hc
  rw [Bool.or_eq_true] at hc
  rcases hc with hc | hc
  · rw [h.plain_eq (by cases v <;> simp_all [plain1, plain, plain2])]
    exact .same hc
  · split at hc
    · exact h.to0 (by simp) (by simp) (by simp)
    · exact h.to0 (by simp) (by simp) (by simp)
    · cases hc

theorem all2_map {ρ : Ren} {ra rc : Operand → Value} : ∀ (l : List Operand), (∀ x, x ∈ l → VR ρ (ra x) (rc x)) → All2 (VR ρ) (l.map ra) (l.map rc)
  | [], _ => .nil
  | x :: l, h => .cons (h x (by simp)) (all2_map l fun y hy => h y (by simp [hy]))
theorem all2_cap {ρ : Ren} : ∀ {as bs : List Value}, All2 (VR ρ) as bs → as.all capOk = true → All2 (V0 ρ) as bs
  | _, _, .nil, _ => .nil
  | _, _, .cons h t, ha => by
    simp only [List.all_cons, Bool.and_eq_true] at ha
    exact .cons (capOk_ok h ha.1) (all2_cap t ha.2)

theorem optVR_map {ρ : Ren} {ra rc : Operand → Value} {o : Option Operand} (h : ∀ x, o = some x → VR ρ (ra x) (rc x)) : OptVR ρ (o.map ra) (o.map rc) := by
  cases o with
  | none => exact .inl ⟨rfl, rfl⟩
  | some x => exact .inr ⟨_, _, rfl, rfl, h x rfl⟩

theorem parts_map {ρ : Ren} {ra rc : Operand → Value} : ∀ (ps : List (Nat × Operand)), (∀ p, p ∈ ps → VR ρ (ra p.2) (rc p.2)) → Parts ρ (ps.map fun p => (p.1, ra p.2)) (ps.map fun p => (p.1, rc p.2))
  | [], _ => .nil
  | p :: ps, h => .cons (h p (by simp)) (parts_map ps fun q hq => h q (by simp [hq]))

section
variable {E : Env} {G B : Nat} {w0 w : World} {ρ : Ren} {s s' : St}

theorem aop_sound (ok : EnvOk E G) {call : Cal → List Value → M Value} {ra rc : Operand → Value} {o : Oper} (r : Rel G B w0 ρ s.heap w) (hG : G ≤ s.next) (hf : Fresh ρ s.next s'.next)
    (hv : ∀ x, x ∈ o.op.operands.toList → VR ρ (ra x) (rc x)) (hnc : ∀ c f, o.op = .call c → c.callee ≠ .value f) {v : Value} (h : aop E call ra o s = .ok v s') :
    OpGives G B w0 ρ s s' v ((execOp rc o).run E.P w) := by
  have hplain : (∀ cs b, o.op ≠ .select cs b) → M.of (plainA E ra o) s = .ok v s' → OpGives G B w0 ρ s s' v ((execOp rc o).run E.P w) := fun hsel h => plain_gives r hsel hv h
  unfold aop at h
  cases hop : o.op <;> rw [hop] at h hv hplain <;> simp only [Op.operands] at hv <;> dsimp only at h
  all_goals first
    | exact hplain (by simp) h
    | skip
  case move x =>
    obtain ⟨rfl, rfl⟩ := pure_ok h
    refine OpGives.same r ?_ rfl (hv x (by simp))
    simp [execOp, hop]
  case assign x =>
    obtain ⟨rfl, rfl⟩ := pure_ok h
    refine OpGives.same r ?_ rfl (hv x (by simp))
    simp [execOp, hop]
  case pick c a b =>
    generalize ht : ra c = q at h
    split at h
    · rename_i t
      obtain ⟨rfl, rfl⟩ := pure_ok h
      have hc := hv c (by simp)
      rw [ht] at hc
      refine OpGives.same r (v' := bif t then rc a else rc b) ?_ rfl (by
        cases t
        · exact hv b (by simp)
        · exact hv a (by simp))
      simp only [execOp, hop, hc.bool]
      cases t <;> simp [asBool]
    · cases h
  case alloc t =>
    obtain ⟨i, s1, h1, h2⟩ := bind_ok h
    obtain ⟨rfl, info, z, T⟩ := tinfo_ok ok h1
    have := (alloc_gives ok T r hG hf h2).op
    simpa only [execOp, hop] using this
  case box t x =>
    have := (box_gives (E := E) (t := t) r hG hf (hv x (by simp)) h).op
    simpa only [execOp, hop] using this
  case build t parts =>
    obtain ⟨i, s1, h1, h2⟩ := bind_ok h
    obtain ⟨hti, rfl⟩ := of_ok h1
    have hp : Parts ρ (parts.toList.map fun (k, x) => (k, ra x)) (parts.map fun (k, x) => (k, rc x)).toList := by
      rw [Array.toList_map]
      exact parts_map parts.toList fun p hp => hv p.2 (by simp; exact ⟨p.1, by simpa using hp⟩)
    generalize hu : i.under = d at h2
    split at h2
    · rename_i fs
      obtain ⟨c, s2, h3, h4⟩ := bind_ok h2
      obtain ⟨hc, rfl⟩ := of_ok h3
      obtain ⟨rfl, rfl⟩ := pure_ok h4
      have := (build_gives (s' := s') ok hti r hp hu hc rfl).op
      simpa only [execOp, hop] using this
    · rename_i n e
      obtain ⟨j, s2, h3, h4⟩ := bind_ok h2
      obtain ⟨htj, rfl⟩ := of_ok h3
      obtain ⟨c, s3, h5, h6⟩ := bind_ok h4
      obtain ⟨hc, rfl⟩ := of_ok h5
      obtain ⟨rfl, rfl⟩ := pure_ok h6
      have := (buildArr_gives (s' := s') ok hti htj r hp hu hc rfl).op
      simpa only [execOp, hop] using this
    · cases h2
  case buildSlice t len parts =>
    obtain ⟨i, s1, h1, h2⟩ := bind_ok h
    obtain ⟨hti, rfl⟩ := of_ok h1
    have hp : Parts ρ (parts.toList.map fun (k, x) => (k, ra x)) (parts.map fun (k, x) => (k, rc x)).toList := by
      rw [Array.toList_map]
      exact parts_map parts.toList fun p hp => hv p.2 (by simp; exact ⟨p.1, by simpa using hp⟩)
    generalize hu : i.under = d at h2
    split at h2
    · rename_i e
      obtain ⟨j, s2, h3, h4⟩ := bind_ok h2
      obtain ⟨htj, rfl⟩ := of_ok h3
      obtain ⟨c, s3, h5, h6⟩ := bind_ok h4
      obtain ⟨hc, rfl⟩ := of_ok h5
      obtain ⟨hle, h7⟩ := cond_ok h6
      have := (buildSlice_gives ok hti htj r hG hf hp hu hc (Nat.le_of_ble_eq_true hle) h7).op
      simpa only [execOp, hop] using this
    · cases h2
  case load t a =>
    obtain ⟨i, s1, h1, h2⟩ := bind_ok h
    obtain ⟨rfl, info, z, T⟩ := tinfo_ok ok h1
    have := (load_gives ok T r (hv a (by simp)) h2).op
    simpa only [execOp, hop] using this
  case store t a x =>
    obtain ⟨i, s1, h1, h2⟩ := bind_ok h
    obtain ⟨rfl, info, z, T⟩ := tinfo_ok ok h1
    obtain ⟨w', hrun, rfl, hn, r'⟩ := store_gives ok T r (hv a (by simp)) (hv x (by simp)) h2
    refine ⟨.skip, undef, w', ρ, ?_, .inr ⟨rfl, rfl⟩, Ext.refl _ _ _, r', VR.undef⟩
    simp [execOp, hop, hrun]
  case nilCheck x =>
    have hx := hv x (by simp)
    generalize ha : ra x = qa at h
    split at h
    · rename_i a
      obtain ⟨rfl, rfl⟩ := pure_ok h
      rw [ha] at hx
      have h0 := hx.to0 (by simp) (by simp) (by simp)
      generalize hq : rc x = q at hx h0
      cases h0 with
      | same h1 => simp [plain1] at h1
      | ptr h1 =>
        refine OpGives.same r ?_ rfl hx
        simp [execOp, hop, hq]
    · rename_i f a b
      obtain ⟨rfl, rfl⟩ := pure_ok h
      rw [ha] at hx
      obtain ⟨as', bs', hq, h1, h2⟩ := VR.func (as := a.toList) (bs := b.toList) hx
      refine OpGives.same r (v' := rc x) ?_ rfl hx
      simp [execOp, hop, hq]
    · cases h
  case makeFunc fn first captured =>
    cases fn with
    | func f =>
      dsimp only at h
      obtain ⟨hc, h1⟩ := cond_ok h
      obtain ⟨rfl, rfl⟩ := pure_ok h1
      simp only [Bool.and_eq_true] at hc
      have e1 := all2_cap (all2_map (ρ := ρ) (ra := ra) (rc := rc) first.toList fun x hx => hv x (by simp; exact .inl (by simpa using hx))) hc.1
      have e2 := all2_cap (all2_map (ρ := ρ) (ra := ra) (rc := rc) captured.toList fun x hx => hv x (by simp; exact .inr (by simpa using hx))) hc.2
      refine OpGives.same r (v' := .func (.func f) ⟨first.toList.map rc⟩ ⟨captured.toList.map rc⟩) ?_ rfl (VR.of1 (.fn e1 e2))
      have q1 : first.map rc = ⟨first.toList.map rc⟩ := by apply Array.ext'; simp
      have q2 : captured.map rc = ⟨captured.toList.map rc⟩ := by apply Array.ext'; simp
      simp [execOp, hop, Instr.makeFunc, q1, q2]
    | _ => exact hplain (by simp) h
  case fieldAddr t x k =>
    obtain ⟨i, s1, h1, h2⟩ := bind_ok h
    obtain ⟨hti, rfl⟩ := of_ok h1
    have hx := hv x (by simp)
    generalize hu : i.under = d at h2
    generalize hq : ra x = qx at h2
    split at h2
    · rename_i fs id off
      rw [hq] at hx
      generalize hf' : fs[k]? = qf at h2
      split at h2
      · rename_i f
        obtain ⟨j, s2, h3, h4⟩ := bind_ok h2
        obtain ⟨htj, rfl⟩ := of_ok h3
        cases hz : Nat.beq j.size 0 with
        | true => rw [hz] at h4; cases h4
        | false =>
          rw [hz] at h4
          obtain ⟨rfl, rfl⟩ := pure_ok h4
          have := (fieldAt_gives (s' := s') ok hti r hx hu hf' htj hz rfl).op
          simpa only [execOp, hop] using this
      · cases h2
    · cases h2
  case field t x k =>
    obtain ⟨i, s1, h1, h2⟩ := bind_ok h
    obtain ⟨hti, rfl⟩ := of_ok h1
    have hx := hv x (by simp)
    generalize hu : i.under = d at h2
    generalize hq : ra x = qx at h2
    split at h2
    · rename_i fs cs
      rw [hq] at hx
      generalize hf' : fs[k]? = qf at h2
      split at h2
      · rename_i f
        obtain ⟨j, s2, h3, h4⟩ := bind_ok h2
        obtain ⟨htj, rfl⟩ := of_ok h3
        obtain ⟨hp, rfl⟩ := of_ok h4
        have := (field_gives (s' := s') ok hti r hx hu hf' htj hp rfl).op
        simpa only [execOp, hop] using this
      · cases h2
    · cases h2
  case indexAddr t x ix =>
    have := (indexAt_gives ok r (hv x (by simp)) (hv ix (by simp)) h).op
    simpa only [execOp, hop] using this
  case extract t k =>
    have hx := hv t (by simp)
    generalize hq : ra t = qx at h
    split at h
    · rename_i vs
      rw [hq] at hx
      obtain ⟨h1, rfl⟩ := of_ok h
      have := (extract_gives (E := E) (s' := s') r hx h1 rfl).op
      simpa only [execOp, hop] using this
    · cases h
  case binOp op t x y u =>
    have hx := hv x (by simp)
    have hy := hv y (by simp)
    generalize hq : fastBin op (ra x) (ra y) = qq at h
    split at h
    · rename_i q
      obtain ⟨rfl, rfl⟩ := pure_ok h
      obtain ⟨hrun, hp⟩ := fastBin_run hq E.P t x y w
      have e1 : rc x = ra x := hx.plain_eq (by
        unfold fastBin at hq
        split at hq
        · rename_i hh; rw [hh]; rfl
        · rename_i hh; rw [hh]; rfl
        · cases hq)
      have e2 : rc y = ra y := hy.plain_eq (by
        unfold fastBin at hq
        split at hq
        · split at hq
          · rename_i hh; rw [hh]; rfl
          · cases hq
        · split at hq
          · rename_i hh; rw [hh]; rfl
          · cases hq
        · cases hq)
      have g : Gives G B w0 ρ s' s' v ((do eqGuard op t x y (rc x) (rc y); binOp op t (rc x) (rc y) : Sem Value).run E.P w) := by
        rw [e1, e2]
        exact Gives.same r hrun rfl (VR.of_plain hp)
      simpa only [execOp, hop] using g.op
    · generalize hq1 : fastBin2 op (ra x) (ra y) = qq1 at h
      split at h
      · rename_i q
        obtain ⟨rfl, rfl⟩ := pure_ok h
        obtain ⟨hrun, hp, p1, p2⟩ := fastBin2_run hq1 E.P t x y w
        have e1 : rc x = ra x := hx.plain_eq p1
        have e2 : rc y = ra y := hy.plain_eq p2
        have g : Gives G B w0 ρ s' s' v ((do eqGuard op t x y (rc x) (rc y); binOp op t (rc x) (rc y) : Sem Value).run E.P w) := by
          rw [e1, e2]
          exact Gives.same r hrun rfl (VR.of_plain hp)
        simpa only [execOp, hop] using g.op
      · generalize hq2 : eqT E op t (ra x) (ra y) = qq2 at h
        split at h
        · rename_i q
          obtain ⟨rfl, rfl⟩ := pure_ok h
          have := (eqT_gives ok r hq2 hx hy x y).op
          simpa only [execOp, hop] using this
        · generalize hq3 : eqStruct E op t (ra x) (ra y) = qq3 at h
          split at h
          · rename_i q
            obtain ⟨rfl, rfl⟩ := pure_ok h
            have := (eqStruct_gives ok r hq3 hx hy x y).op
            simpa only [execOp, hop] using this
          · exact hplain (by simp) h
  case slice t x lo hi mx =>
    have hx := hv x (by simp)
    have h1 := optVR_map (ρ := ρ) (ra := ra) (rc := rc) (o := lo) fun y hy => hv y (by simp [hy])
    have h2 := optVR_map (ρ := ρ) (ra := ra) (rc := rc) (o := hi) fun y hy => hv y (by simp [hy])
    have h3 := optVR_map (ρ := ρ) (ra := ra) (rc := rc) (o := mx) fun y hy => hv y (by simp [hy])
    generalize hb : ra x = qx at h
    split at h
    · rename_i b
      obtain ⟨hq, rfl⟩ := of_ok h
      rw [hb] at hx
      have := (strSlice_gives ok r h1 h2 h3 hq).op
      rw [← hx.str] at this
      simpa only [execOp, hop] using this
    · rw [hb] at hx
      have := (slice_gives ok r hx h1 h2 h3 h).op
      simpa only [execOp, hop] using this
  case index t x ix =>
    have hx := hv x (by simp)
    generalize hb : ra x = qx at h
    split at h
    · rename_i b
      obtain ⟨hq, rfl⟩ := of_ok h
      rw [hb] at hx
      have := (strIndex_gives ok r (hv ix (by simp)) hq).op
      rw [← hx.str] at this
      simpa only [execOp, hop] using this
    · exact hplain (by simp) h
  case makeSlice t l c =>
    generalize hn : natA (ra l) = qn at h
    split at h
    · rename_i n
      generalize hm : natA (ra c) = qm at h
      split at h
      · rename_i m
        obtain ⟨k1, e1⟩ := natA_ok hn
        obtain ⟨k2, e2⟩ := natA_ok hm
        have hl := hv l (by simp)
        have hc := hv c (by simp)
        rw [e1] at hl
        rw [e2] at hc
        have := (makeSliceA_gives (kl := k1) (kc := k2) ok r hG hf h).op
        rw [← hl.int, ← hc.int] at this
        simpa only [execOp, hop] using this
      · cases h
    · cases h
  case convert src dst x =>
    have hx := hv x (by simp)
    generalize hq : convA E src dst (ra x) = qq at h
    split at h
    · rename_i q
      obtain ⟨rfl, rfl⟩ := pure_ok h
      have := (convA_gives ok r hx hq).op
      simpa only [execOp, hop] using this
    · generalize hb : ra x = qx at h
      rw [hb] at hx
      unfold convM at h
      split at h
      · rename_i b
        have := (bytesA_gives ok r hG hf h).op
        rw [← hx.str] at this
        simpa only [execOp, hop] using this
      · have := (stringA_gives ok r hx h).op
        simpa only [execOp, hop] using this
  case range t x =>
    have hx := hv x (by simp)
    generalize hb : ra x = qx at h
    split at h
    · rename_i b
      rw [hb] at hx
      generalize hu : under? E t = qu at h
      split at h
      · have ht := under?_ok ok hu
        obtain ⟨id, s1, h1, h2⟩ := bind_ok h
        obtain ⟨rfl, rfl⟩ := pure_ok h2
        obtain ⟨rfl, hbd, he, hn⟩ := newBlk_ok h1
        have hfr := hf s.next (Nat.le_refl _) (by omega)
        have hheap : (w.alloc (.stringIter b 0)).heap[w.heap.size]? = some (.stringIter b 0) := by
          show (w.heap.push _)[w.heap.size]? = _
          simp
        have r' := r.new hbd hG hfr (.stringIter b 0) (.iter b 0) ⟨w.heap.size, 0, 0, 0⟩ rfl ⟨⟨w.heap.size, 0, 0, 0⟩, by simp, rfl, r.size, by rw [size_alloc']; exact Nat.lt_succ_self _, hheap⟩
        refine ⟨.value (.pointer (some ⟨w.heap.size, 0, none⟩)), .pointer (some ⟨w.heap.size, 0, none⟩), _, _, ?_, .inl rfl, Ext.one hfr hn, by rw [he]; exact r', VR.of0 (.ptr (l := ⟨w.heap.size, 0, 0, 0⟩) (by simp))⟩
        simp only [execOp, hop, hx.str]
        simp [Instr.range, run_underlying ht]
      · cases h
    · cases h
  case next it b =>
    cases b with
    | true =>
      have := (nextA_gives (E := E) r (hv it (by simp)) o.type h).op
      simpa only [execOp, hop] using this
    | false => exact hplain (by simp) h
  case call c =>
    have hca : ∀ x, x ∈ c.args.toList → VR ρ (ra x) (rc x) := fun x hx => hv x (by
      unfold Call.operands
      exact Array.mem_toList_iff.2 (Array.mem_append.2 (.inr (by simpa using hx))))
    generalize hb : c.callee = qc at h
    split at h
    · rename_i f
      exact absurd hb (hnc c f hop)
    · rename_i b
      have hargs := all2_map (ρ := ρ) (ra := ra) (rc := rc) c.args.toList hca
      have hbu : b ≠ .min → b ≠ .max → builtinA E b c.argTypes.toList (c.args.toList.map ra) s = .ok v s' → OpGives G B w0 ρ s s' v ((execOp rc o).run E.P w) := by
        intro _ _ h
        have hexec : execOp rc o = builtin b c.argTypes o.type (c.args.map fun | .const _ => true | _ => false) ⟨c.args.toList.map rc⟩ := by
          have q : c.args.map rc = ⟨c.args.toList.map rc⟩ := by apply Array.ext'; simp
          simp only [execOp, hop, resolve, hb, q]
          rfl
        rw [hexec]
        generalize c.args.toList.map ra = la at h hargs
        generalize c.args.toList.map rc = lc at hargs
        unfold builtinA at h
        split at h
        · cases hargs with
          | nil => cases h
          | cons hx ht =>
            obtain ⟨hq, rfl⟩ := of_ok h
            exact (lenA_gives ok r hx o.type hq).op
        · cases hargs with
          | nil => cases h
          | cons hx ht =>
            obtain ⟨hq, rfl⟩ := of_ok h
            exact (capA_gives ok r hx o.type hq).op
        · split at h
          · rename_i sv xv
            cases hargs with
            | cons hs ht =>
              cases ht with
              | cons hx ht =>
                cases ht
                generalize hat : c.argTypes.toList = qat at h
                split at h
                · rename_i st xt
                  have hats : c.argTypes = #[st, xt] := by
                    apply Array.ext'
                    rw [hat]
                  rw [hats]
                  unfold appendB at h
                  obtain ⟨i, s1, g1, g2⟩ := bind_ok h
                  obtain ⟨rfl, info, z, T⟩ := tinfo_ok ok g1
                  obtain ⟨ix, s2, g3, g4⟩ := bind_ok g2
                  obtain ⟨rfl, info3, z3, T3⟩ := tinfo_ok ok g3
                  generalize hu : i.under = d at g4
                  split at g4
                  · rename_i e
                    have fin : ∀ (s4 : St) (yv zv : Value) (cs : Array Bool), s4.next = s2.next → Gives G B w0 ρ s4 s' v ((Builtin.append_ #[st, xt] o.type #[yv, zv]).run E.P w) → OpGives G B w0 ρ s2 s' v ((builtin .append #[st, xt] o.type cs ⟨[yv, zv]⟩).run E.P w) := by
                      intro s4 yv zv cs hn4 g
                      have g' : Gives G B w0 ρ s2 s' v ((Builtin.append_ #[st, xt] o.type #[yv, zv]).run E.P w) := by
                        obtain ⟨v', w', ρ', q1, q2, q3, q4⟩ := g
                        exact ⟨v', w', ρ', q1, by rw [← hn4]; exact q2, q3, q4⟩
                      exact g'.op
                    have main : ∀ (s4 : St) (yv zv : Value) (cs : Array Bool) (ie : TI) (info2 : TypeInfo) (z2 : Value) (n : Nat) (cells news : List Value), TiOk E.P e ie info2 z2 → s4.heap = s2.heap → s4.next = s2.next → All2 (V1 ρ) cells news → Src2 E.P info2 z2 xt zv n news w → VR ρ sv yv →
                        appendA ie.size ie.bytes sv n cells s4 = .ok v s' → OpGives G B w0 ρ s2 s' v ((builtin .append #[st, xt] o.type cs ⟨[yv, zv]⟩).run E.P w) := by
                      intro s4 yv zv cs ie info2 z2 n cells news T2 he4 hn4 hnews hS hs g9
                      unfold appendA at g9
                      split at g9
                      · cases hn0 : Nat.beq n 0 with
                        | true =>
                          rw [hn0] at g9
                          obtain ⟨rfl, rfl⟩ := pure_ok (show M.pure _ s4 = _ from g9)
                          have e0 := Nat.eq_of_beq_eq_true hn0
                          have hS' := hS
                          rw [e0] at hS'
                          have := nil_of_src hS e0
                          subst this
                          have hst : E.P.underlying st = some (.slice e) := by rw [T.under, hu]
                          have hr := run_append_nothing2 (ty := o.type) w st xt e info2 z2 hst T2.inf T2.zero none 0 0 (Nat.le_refl _) _ hS'
                          rw [← hs.plain_eq rfl] at hr
                          exact fin _ _ _ _ hn4 (Gives.same (by rw [he4]; exact r) hr rfl hs)
                        | false =>
                          rw [hn0] at g9
                          have hlt : 0 < 0 + n := by have := Nat.ne_of_beq_eq_false hn0; omega
                          have := appGrow_gives (s := s4) (ty := o.type) ok T hu T2 (by rw [he4]; exact r) (by rw [hn4]; exact hG) (by rw [hn4]; exact hf) (olds := []) (olds' := []) .nil hnews (base := none) (len := 0) (cap := 0)
                            (run_firstCells_none w.drew info2.size 0 0 0) (by simp) hS hlt (show appGrow ie.size ie.bytes [] 0 n cells s4 = _ from g9)
                          rw [← hs.plain_eq rfl] at this
                          exact fin s4 _ _ _ hn4 this
                      · exact fin s4 _ _ _ hn4 (appKnown_gives (s := s4) ok T hu T2 (by rw [he4]; exact r) (by rw [hn4]; exact hG) (by rw [hn4]; exact hf) hnews hs hS g9)
                      · exact fin s4 _ _ _ hn4 (appUnknown_gives (s := s4) ok T hu T2 (by rw [he4]; exact r) (by rw [hn4]; exact hG) (by rw [hn4]; exact hf) hnews hs hS g9)
                      · cases g9
                    cases hsrc : srcType ix.under with
                    | true =>
                      rw [hsrc, cond_true] at g4
                      obtain ⟨ie, s3, g6, g7⟩ := bind_ok g4
                      obtain ⟨rfl, info2, z2, T2⟩ := tinfo_ok ok g6
                      obtain ⟨nc, s4, g8, g9⟩ := bind_ok g7
                      obtain ⟨he4, hn4, news, hnews, hS⟩ := srcCells_ok ok r hx T3 hsrc g8
                      rw [T2.size] at hS
                      exact main s4 _ _ _ ie info2 z2 nc.1 nc.2 news T2 he4 hn4 hnews (.src hS) hs g9
                    | false =>
                      rw [hsrc, cond_false] at g4
                      obtain ⟨hint, g5⟩ := cond_ok g4
                      obtain ⟨ie, s3, g6, g7⟩ := bind_ok g5
                      obtain ⟨rfl, info2, z2, T2⟩ := tinfo_ok ok g6
                      obtain ⟨n, s4, g8, g9⟩ := bind_ok g7
                      obtain ⟨hnat, e4⟩ := of_ok g8
                      rw [e4] at g9
                      obtain ⟨hsmall, g10⟩ := cond_ok g9
                      simp only [growOk, Bool.and_eq_true] at hsmall
                      have hbytes := Nat.le_of_ble_eq_true hsmall.2
                      have hsmall := Nat.le_of_ble_eq_true hsmall.1
                      rw [T2.bytes] at hbytes
                      obtain ⟨q, hq⟩ : ∃ q, ix.under = .int q := by
                        cases hx : ix.under <;> rw [hx] at hint <;> first | (cases hint; done) | exact ⟨_, rfl⟩
                      obtain ⟨kd, rfl⟩ := natA_ok hnat
                      have hxe := hx.int
                      have hzs : z2.cells.size = info2.size := by
                        have := T2.zlen
                        rw [T2.zcells, vcells_eq, T2.size] at this
                        simpa using this
                      have hnews : All2 (V1 ρ) (repeatA ie.zero n) (Builtin.zeroCells z2.cells n).toList := by
                        have e : (Builtin.zeroCells z2.cells n).toList = repeatA ie.zero n := by
                          rw [T2.zcells, vcells_eq]
                          exact repeatA_made _ _
                        rw [e]
                        exact all2_plain (repeatA_plain T2.zplain n)
                      refine main s3 _ _ _ ie info2 z2 n _ _ T2 rfl rfl hnews (.zeros q kd (by rw [T3.under, hq]) hxe rfl hzs (all2_oneCell hnews) ?_ hsmall) hs g10
                      exact Nat.le_trans (Nat.mul_le_mul hsmall hbytes) (by decide)
                  · cases g4
                · cases h
          · cases h
        · split at h
          · cases hargs with
            | cons hd ht =>
              cases ht with
              | cons hx ht =>
                generalize hat : c.argTypes.toList = qat at h
                split at h
                · rename_i st sts
                  exact (copyB_gives ok r hat hd hx o.type h (fun _ => trivial)).op
                · cases h
          · cases h
        · split at h
          · cases hargs with
            | cons hx ht =>
              generalize hat : c.argTypes.toList = qat at h
              split at h
              · rename_i st
                exact (clearB_gives ok r hat hx o.type h).op
              · cases h
          · cases h
        · cases h
      split at h
      · exact hplain (by simp) h
      · exact hplain (by simp) h
      · rename_i b' h1 h2
        exact hbu (fun e => h1 e) (fun e => h2 e) h
    · cases h
  case select cs b => cases h
  case defer c => cases h
end
end Go.Abs

/- A region that draws its order: whatever the order, the same. -/
import Derived.Test.YtffgakphodjbjaaGreatDoorRotRegion
set_option linter.unusedVariables false
set_option linter.unusedSimpArgs false
namespace Go.Abs
open Go.RowKit

/-! ## The last that wrote -/
def Last (n : Nat) (D Wr : Nat → Prop) (m : Nat) : Prop := (m = 0 ∧ ∀ k, k < n → D k → ¬ Wr k) ∨ ∃ k, m = k + 1 ∧ k < n ∧ D k ∧ Wr k ∧ ∀ k', k' < n → k < k' → D k' → ¬ Wr k'

theorem val_stable {β : Type} {val : Nat → β} {Wr : Nat → Prop} {n : Nat} (hst : ∀ k, k < n → ¬ Wr k → val (k + 1) = val k) : ∀ (d m : Nat), m + d ≤ n → (∀ k, m ≤ k → k < m + d → ¬ Wr k) → val (m + d) = val m
  | 0, _, _, _ => rfl
  | d + 1, m, h, hw => by
    rw [show m + (d + 1) = m + d + 1 by omega, hst _ (by omega) (hw _ (by omega) (by omega))]
    exact val_stable hst d m (by omega) fun k h1 h2 => hw k h1 (by omega)

theorem Last.val {β : Type} {val : Nat → β} {D Wr : Nat → Prop} {n m i : Nat} (hst : ∀ k, k < n → ¬ Wr k → val (k + 1) = val k) (h : Last n D Wr m) (hi : i ≤ n) (hD : ∀ k, k < n → Wr k → (D k ↔ k < i)) : val m = val i := by
  have hm : m ≤ i := by
    rcases h with ⟨rfl, _⟩ | ⟨k, rfl, h1, h2, h3, _⟩
    · omega
    · exact (hD k h1 h3).1 h2
  have hno : ∀ k, m ≤ k → k < i → ¬ Wr k := by
    intro k h1 h2 hw
    have hk : k < n := by omega
    have hd := (hD k hk hw).2 h2
    rcases h with ⟨rfl, h3⟩ | ⟨q, rfl, _, _, _, h3⟩
    · exact h3 k hk hd hw
    · exact h3 k hk (by omega) hd hw
  have := val_stable hst (i - m) m (by omega) fun k h1 h2 => hno k h1 (by omega)
  rw [show m + (i - m) = i by omega] at this
  exact this.symm
theorem Last.keep {D D' Wr : Nat → Prop} {n m i : Nat} (h : Last n D Wr m) (hD : ∀ k, D' k ↔ D k ∨ k = i) (hi : ¬ Wr i) : Last n D' Wr m := by
  rcases h with ⟨rfl, h1⟩ | ⟨k, rfl, h1, h2, h3, h4⟩
  · refine .inl ⟨rfl, fun k hk hd => ?_⟩
    rcases (hD k).1 hd with hd | rfl
    · exact h1 k hk hd
    · exact hi
  · refine .inr ⟨k, rfl, h1, (hD k).2 (.inl h2), h3, fun k' hk hlt hd => ?_⟩
    rcases (hD k').1 hd with hd | rfl
    · exact h4 k' hk hlt hd
    · exact hi
theorem Last.add {D D' Wr : Nat → Prop} {n i : Nat} (hi : i < n) (hD : ∀ k, D' k ↔ D k ∨ k = i) (hw : Wr i) (hlt : ∀ k, k < n → D k → Wr k → k < i) : Last n D' Wr (i + 1) := by
  refine .inr ⟨i, rfl, hi, (hD i).2 (.inr rfl), hw, fun k' hk h1 hd hw' => ?_⟩
  rcases (hD k').1 hd with hd | rfl
  · have := hlt k' hk hd hw'
    omega
  · omega

/-! ## Clashes -/
theorem memb_iff (x : Nat) : ∀ l, memb x l = true ↔ x ∈ l
  | [] => by simp [memb]
  | y :: l => by
    unfold memb
    cases h : Nat.beq x y with
    | true => have := Nat.eq_of_beq_eq_true h; subst this; simp
    | false => have := Nat.ne_of_beq_eq_false h; simp [this, memb_iff x l]
theorem meet_iff : ∀ (xs ys : List Nat), meet xs ys = true ↔ ∃ x, x ∈ xs ∧ x ∈ ys
  | [], ys => by simp [meet]
  | x :: xs, ys => by
    unfold meet
    cases h : memb x ys with
    | true => simp only [cond_true, true_iff]; exact ⟨x, by simp, (memb_iff x ys).1 h⟩
    | false =>
      simp only [cond_false, meet_iff xs ys]
      constructor
      · rintro ⟨y, h1, h2⟩; exact ⟨y, by simp [h1], h2⟩
      · rintro ⟨y, h1, h2⟩
        rcases List.mem_cons.1 h1 with rfl | h1
        · rw [(memb_iff y ys).2 h2] at h; cases h
        · exact ⟨y, h1, h2⟩
theorem clashAll_get {b : Nat} {l : List Nat × List Nat} : ∀ {ms : List (List Nat × List Nat)} {i : Nat}, clashAll b l i ms = true → ∀ p m, ms[p]? = some m → clash l m = true → b.testBit (i + p) = true
  | [], i, _, p, m, hp, _ => by simp at hp
  | q :: ms, i, h, p, m, hp, hc => by
    unfold clashAll at h
    simp only [Bool.and_eq_true, Bool.or_eq_true] at h
    cases p with
    | zero =>
      simp at hp
      subst hp
      rcases h.1 with h1 | h1
      · rw [hc] at h1; cases h1
      · exact h1
    | succ p =>
      have := clashAll_get h.2 p m (by simpa using hp) hc
      rw [show i + (p + 1) = i + 1 + p by omega]
      exact this
theorem orderOk_get : ∀ {ls earlier : List (List Nat × List Nat)} {bs : List Nat}, orderOk bs earlier ls = true → ∀ j l, ls[j]? = some l → ∃ b, bs[j]? = some b ∧ ∀ p m, (earlier ++ ls.take j)[p]? = some m → clash l m = true → b.testBit p = true
  | [], _, _, _, j, l, hj => by simp at hj
  | q :: ls, earlier, [], h, j, l, hj => by simp [orderOk] at h
  | q :: ls, earlier, b :: bs, h, j, l, hj => by
    unfold orderOk at h
    simp only [Bool.and_eq_true] at h
    cases j with
    | zero =>
      simp at hj
      subst hj
      refine ⟨b, rfl, fun p m hp hc => ?_⟩
      have := clashAll_get h.1 p m (by simpa using hp) hc
      rwa [Nat.zero_add] at this
    | succ j =>
      obtain ⟨b', h1, h2⟩ := orderOk_get h.2 j l (by simpa using hj)
      refine ⟨b', by simpa using h1, fun p m hp hc => h2 p m ?_ hc⟩
      simpa using hp

/-! ## The reading in the text's order, laid open -/
section
variable {E : Env} {call : Cal → List Value → M Value}

structure Lex (E : Env) (call : Cal → List Value → M Value) (ops : List Oper) (l : List Oper) (F : Nat → Fr) (S : Nat → St) (V : Nat → Value) (ls : List (List Nat × List Nat)) : Prop where
  len : ls.length = l.length
  put : ∀ i o, l[i]? = some o → F (i + 1) = (F i).put o.dst (V i)
  mono : ∀ i, i < l.length → (S i).next ≤ (S (i + 1)).next
  keep : ∀ i p, ls[i]? = some p → ∀ id, id ∉ p.2 → (S (i + 1)).heap.get id = (S i).heap.get id
  again : ∀ i o p, l[i]? = some o → ls[i]? = some p → ∀ t : St, t.next = (S i).next → (∀ id, id ∈ p.1 → t.heap.get id = (S i).heap.get id) →
    ∃ t', aoper E call ops (F i) o t = .ok (V i) t' ∧ t'.next = (S (i + 1)).next ∧ (∀ id, id ∈ p.2 → t'.heap.get id = (S (i + 1)).heap.get id) ∧ ∀ id, id ∉ p.2 → t'.heap.get id = t.heap.get id

theorem lex_of (hfc : ∀ g args, Framed (call g args)) (ops : List Oper) : ∀ (l : List Oper) {s s' : St} {f f' : Fr} {ls : List (List Nat × List Nat)}, aseqLog E call ops l f s = .ok (f', ls) s' →
    ∃ (F : Nat → Fr) (S : Nat → St) (V : Nat → Value), F 0 = f ∧ S 0 = s ∧ F l.length = f' ∧ S l.length = s' ∧ Lex E call ops l F S V ls
  | [], s, s', f, f', ls, h => by
    obtain ⟨e, rfl⟩ := pure_ok h
    cases e
    exact ⟨fun _ => f, fun _ => s', fun _ => undef, rfl, rfl, rfl, rfl, rfl, fun i o h => by simp at h, fun i h => by simp at h, fun i p h => by simp at h, fun i o p h => by simp at h⟩
  | o :: l, s, s', f, f', ls, h => by
    obtain ⟨⟨v, rr, ww⟩, s1, h1, h2⟩ := bind_ok h
    obtain ⟨⟨f2, ls2⟩, s2, h3, h4⟩ := bind_ok h2
    obtain ⟨e, rfl⟩ := pure_ok h4
    cases e
    obtain ⟨F, S, V, e1, e2, e3, e4, L⟩ := lex_of hfc ops l h3
    -- the first
    have hm := framed_aoper (E := E) hfc ops f o
    unfold M.logged at h1
    cases hr : aoper E call ops f o { s with rl := [], wl := [] } with
    | err c => rw [hr] at h1; cases h1
    | ok v0 s0 =>
      rw [hr] at h1
      cases h1
      obtain ⟨R, W, ft, ag⟩ := hm _ _ _ hr
      have hR : s0.rl = R := by rw [ft.rl]; simp
      have hW : s0.wl = W := by rw [ft.wl]; simp
      refine ⟨fun i => match i with | 0 => f | i + 1 => F i, fun i => match i with | 0 => s | i + 1 => S i, fun i => match i with | 0 => v | i + 1 => V i, rfl, rfl, e3, e4, ?_⟩
      refine ⟨by simp [L.len], fun i q hq => ?_, fun i hi => ?_, fun i p hp id hid => ?_, fun i q p hq hp t hn hh => ?_⟩
      · cases i with
        | zero => simp at hq; subst hq; exact e1
        | succ i => exact L.put i q (by simpa using hq)
      · cases i with
        | zero => show s.next ≤ (S 0).next; rw [e2]; exact ft.nx
        | succ i => exact L.mono i (by simpa using hi)
      · cases i with
        | zero =>
          simp at hp
          subst hp
          show (S 0).heap.get id = s.heap.get id
          rw [e2]
          exact ft.keep id (by rw [← hW]; exact hid)
        | succ i => exact L.keep i p (by simpa using hp) id hid
      · cases i with
        | zero =>
          simp at hp hq
          subst hp; subst hq
          obtain ⟨t', g1, g2, g3, g4⟩ := ag t hn (fun id hid => hh id (by rw [← hR] at hid; exact hid))
          refine ⟨t', g1, ?_, fun id hid => ?_, fun id hid => g3.keep id (by rw [← hW]; exact hid)⟩
          · show t'.next = (S 0).next
            rw [e2]; exact g2
          · show t'.heap.get id = (S 0).heap.get id
            rw [e2]
            exact g4 id (by rw [← hW]; exact hid)
        | succ i => exact L.again i q p (by simpa using hq) (by simpa using hp) t hn hh

theorem aoper_congr {ops : Array Oper} {f g : Fr} (hf : f.n = g.n) {o : Oper} (h : ∀ x, x ∈ o.looksAt ops → f.get x = g.get x) : aoper E call ops.toList f o = aoper E call ops.toList g o := by
  have hw : wantedA ops.toList f o = wantedA ops.toList g o := by
    unfold wantedA
    cases hg : o.guard with
    | none => rfl
    | some p =>
      obtain ⟨j, want⟩ := p
      dsimp only
      have e : ops.toList[j]? = ops[j]? := by simp
      rw [e]
      cases hj : ops[j]? with
      | none => rfl
      | some oj =>
        dsimp only
        cases hd : oj.dst with
        | none => rfl
        | some d =>
          dsimp only
          rw [hf, h d (by unfold Oper.looksAt; rw [hg]; simp [hj, hd])]
  have he : ∀ x, x ∈ o.op.operands.toList → f.eval x = g.eval x := by
    intro x hx
    cases x with
    | tmp t => exact h t (by unfold Oper.looksAt; simp only [List.mem_append, List.mem_filterMap]; exact .inl ⟨.tmp t, hx, rfl⟩)
    | _ => rfl
  unfold aoper
  rw [hw, aop_congr he]
end

theorem drawOk_edges {ops : Array Oper} (h : drawOk ops = true) {j : Nat} {o : Oper} (hj : ops[j]? = some o) {e : Edge} (he : e ∈ o.after.toList) (hb : Region.binds .any e = true) : e.on < j := by
  unfold drawOk at h
  simp only [Bool.and_eq_true] at h
  have h1 := List.all_eq_true.1 h.1 j (by simp; exact (Array.getElem?_eq_some_iff.1 hj).1)
  rw [hj] at h1
  have h2 := List.all_eq_true.1 h1 e he
  rw [hb] at h2
  simpa using h2
theorem drawOk_apart {ops : Array Oper} (h : drawOk ops = true) {i j : Nat} (hij : i < j) {x y : Oper} (hi : ops[i]? = some x) (hj : ops[j]? = some y) (hb : ((Region.before ops).getD j 0).testBit i = false) : x.apart ops y = true := by
  unfold drawOk at h
  simp only [Bool.and_eq_true] at h
  have h1 := List.all_eq_true.1 h.2 j (by simp; exact (Array.getElem?_eq_some_iff.1 hj).1)
  have h2 := List.all_eq_true.1 h1 i (by simpa using hij)
  rw [hb, hi, hj] at h2
  simpa using h2
end Go.Abs

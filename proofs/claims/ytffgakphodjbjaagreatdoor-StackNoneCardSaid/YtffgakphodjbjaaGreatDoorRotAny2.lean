/- A region that draws its order: whatever the order, the same: the proof. -/
import Derived.Test.YtffgakphodjbjaaGreatDoorRotAny
set_option linter.unusedVariables false
set_option linter.unusedSimpArgs false
namespace Go.Abs
open Go.RowKit

def Dn (listed : Array Bool) (k : Nat) : Prop := listed.getD k false = true

theorem Dn_set {listed : Array Bool} {i : Nat} (hi : i < listed.size) (k : Nat) : Dn (listed.setIfInBounds i true) k ↔ Dn listed k ∨ k = i := by
  unfold Dn
  simp only [Array.getD_eq_getD_getElem?, Array.getElem?_setIfInBounds]
  by_cases e : i = k
  · subst e; simp [hi]
  · simp [e]; omega

theorem arr_all {α : Type} {p : α → Bool} {l : Array α} : l.all p = true ↔ ∀ x, x ∈ l.toList → p x = true := by
  rw [← Array.all_toList, List.all_eq_true]

theorem ready_iff {ops : Array Oper} {listed : Array Bool} (hs : listed.size = ops.size) (i : Nat) : i ∈ Region.ready .any ops listed ↔ ∃ o, ops[i]? = some o ∧ ¬ Dn listed i ∧ ∀ e, e ∈ o.after.toList → Region.binds .any e = true → Dn listed e.on := by
  unfold Region.ready
  rw [List.mem_filter, List.mem_range, Bool.and_eq_true]
  constructor
  · rintro ⟨h1, h2, h3⟩
    have hl : i < listed.size := by omega
    refine ⟨ops[i], by simp [h1], ?_, fun e he hb => ?_⟩
    · unfold Dn
      rw [Array.getD_eq_getD_getElem?, Array.getElem?_eq_getElem hl] at h2 ⊢
      simpa using h2
    · rw [Array.getElem?_eq_getElem h1] at h3
      simp only [Option.map_some, Option.getD_some] at h3
      have h4 := arr_all.1 h3 e he
      rw [hb] at h4
      simpa [Dn] using h4
  · rintro ⟨o, h1, h2, h3⟩
    have hi : i < ops.size := (Array.getElem?_eq_some_iff.1 h1).1
    have hl : i < listed.size := by omega
    refine ⟨hi, ?_, ?_⟩
    · unfold Dn at h2
      rw [Array.getD_eq_getD_getElem?, Array.getElem?_eq_getElem hl] at h2 ⊢
      simpa using h2
    · rw [h1]
      simp only [Option.map_some, Option.getD_some]
      refine arr_all.2 fun e he => ?_
      cases hb : Region.binds .any e with
      | false => rfl
      | true => simpa [Dn] using h3 e he hb

theorem all_listed {ops : Array Oper} (hd : drawOk ops = true) {listed : Array Bool} (hs : listed.size = ops.size) (hr : Region.ready .any ops listed = []) : ∀ k, k < ops.size → Dn listed k := by
  intro k
  induction k using Nat.strongRecOn with
  | _ k ih =>
    intro hk
    apply Classical.byContradiction
    intro hn
    have : k ∈ Region.ready .any ops listed := (ready_iff hs k).2 ⟨ops[k], by simp [hk], hn, fun e he hb => by
      have hlt := drawOk_edges hd (j := k) (o := ops[k]) (by simp [hk]) he hb
      exact ih e.on hlt (by omega)⟩
    rw [hr] at this
    cases this

section
variable {E : Env} {G B : Nat} {w0 : World} {rd : Option Nat}

structure Inv (G B : Nat) (w0 : World) (ops : Array Oper) (F : Nat → Fr) (S : Nat → St) (ls : List (List Nat × List Nat)) (ρ0 : Ren) (listed : Array Bool) (g : Fr) (h : T Blk) (ρ : Ren) (w : World) (a : Act) : Prop where
  size : listed.size = ops.size
  down : ∀ j, j < ops.size → Dn listed j → ∀ k, ((Region.before ops).getD j 0).testBit k = true → Dn listed k
  n : g.n = (F 0).n
  marks : g.marks = (F 0).marks
  slots : ∀ x, x < (F 0).n → ∃ m, Last ops.size (Dn listed) (fun k => ∃ o, ops[k]? = some o ∧ o.dst = some x) m ∧ g.get x = (F m).get x
  out : ∀ x, ¬ x < (F 0).n → g.get x = (F 0).get x
  heap : ∀ id, ∃ m, Last ops.size (Dn listed) (fun k => ∃ p, ls[k]? = some p ∧ id ∈ p.2) m ∧ h.get id = (S m).heap.get id
  rel : Rel G B w0 ρ h w
  fr : FrRel ρ g a
  ext : Ext ρ0 ρ (S 0).next (S ops.size).next
  fresh : ∀ k, k < ops.size → ¬ Dn listed k → Fresh ρ (S k).next (S (k + 1)).next

theorem mono_next {S : Nat → St} {n : Nat} (h : ∀ i, i < n → (S i).next ≤ (S (i + 1)).next) : ∀ (d i : Nat), i + d ≤ n → (S i).next ≤ (S (i + d)).next
  | 0, i, _ => Nat.le_refl _
  | d + 1, i, hd => Nat.le_trans (mono_next h d i (by omega)) (h (i + d) (by omega))

theorem any_sound (ok : EnvOk E G) {call : Cal → List Value → M Value} (hc : CallOk E G call) {ops : Array Oper} (hop : ∀ o, o ∈ ops.toList → ∀ x, x ∈ o.op.operands.toList → opdOk G x = true) (hd : drawOk ops = true)
    {F : Nat → Fr} {S : Nat → St} {V : Nat → Value} {ls : List (List Nat × List Nat)} (L : Lex E call ops.toList ops.toList F S V ls) (hFs : (F 0).n ≤ bound)
    (hcl : ∀ i j p q, i < j → ls[i]? = some p → ls[j]? = some q → clash q p = true → ((Region.before ops).getD j 0).testBit i = true) (hG : G ≤ (S 0).next) {ρ0 : Ren} {QQ : Exit → Act → World → Prop}
    (hQ : ∀ a' w' ρ' g h, Ext ρ0 ρ' (S 0).next (S ops.size).next → Rel G B w0 ρ' h w' → FrRel ρ' g a' → g.n = (F 0).n → g.marks = (F 0).marks → (∀ x, g.get x = (F ops.size).get x) → (∀ id, h.get id = (S ops.size).heap.get id) → QQ .normal a' w') :
    ∀ (fuel : Nat) (listed : Array Bool) (g : Fr) (h : T Blk) (ρ : Ren) (w : World) (a : Act), Inv G B w0 ops F S ls ρ0 listed g h ρ w a → (listed.toList.count false) ≤ fuel → wpAnyIn (FR rd) 0 E.P .any ops QQ fuel listed a w := by
  have hlen : ls.length = ops.size := by rw [L.len]; simp
  have hFn : ∀ k, k ≤ ops.size → (F k).n = (F 0).n := by
    intro k
    induction k with
    | zero => intro _; rfl
    | succ k ih =>
      intro hk
      rw [L.put k ops[k] (by simp [show k < ops.size by omega]), Fr.n_put, ih (by omega)]
  have stF : ∀ x, ∀ k, k < ops.size → ¬ (∃ o, ops[k]? = some o ∧ o.dst = some x) → (F (k + 1)).get x = (F k).get x := by
    intro x k hk hno
    rw [L.put k ops[k] (by simp [hk]), Fr.get_put (by rw [hFn k (by omega)]; exact hFs), if_neg]
    rintro ⟨h1, _⟩
    exact hno ⟨ops[k], by simp [hk], h1⟩
  have stS : ∀ id, ∀ k, k < ops.size → ¬ (∃ p, ls[k]? = some p ∧ id ∈ p.2) → (S (k + 1)).heap.get id = (S k).heap.get id := by
    intro id k hk hno
    have hk' : k < ls.length := by omega
    exact L.keep k ls[k] (by simp [hk']) id fun hid => hno ⟨ls[k], by simp [hk'], hid⟩
  have finish : ∀ {listed : Array Bool} {g : Fr} {h : T Blk} {ρ : Ren} {w : World} {a : Act}, Inv G B w0 ops F S ls ρ0 listed g h ρ w a → (∀ k, k < ops.size → Dn listed k) → QQ .normal a w := by
    intro listed g h ρ w a I hall
    refine hQ a w ρ g h I.ext I.rel I.fr I.n I.marks (fun x => ?_) (fun id => ?_)
    · by_cases hx : x < (F 0).n
      · obtain ⟨m, h1, h2⟩ := I.slots x hx
        rw [h2]
        exact h1.val (val := fun k => (F k).get x) (stF x) (Nat.le_refl _) (fun k hk _ => ⟨fun _ => hk, fun _ => hall k hk⟩)
      · rw [I.out x hx]
        have : ∀ k, k ≤ ops.size → (F k).get x = (F 0).get x := by
          intro k
          induction k with
          | zero => intro _; rfl
          | succ k ih =>
            intro hk
            rw [L.put k ops[k] (by simp [show k < ops.size by omega]), Fr.get_put (by rw [hFn k (by omega)]; exact hFs), if_neg, ih (by omega)]
            rintro ⟨_, h2⟩
            rw [hFn k (by omega)] at h2
            exact hx h2
        exact (this _ (Nat.le_refl _)).symm
    · obtain ⟨m, h1, h2⟩ := I.heap id
      rw [h2]
      exact h1.val (val := fun k => (S k).heap.get id) (stS id) (Nat.le_refl _) (fun k hk _ => ⟨fun _ => hk, fun _ => hall k hk⟩)
  intro fuel
  induction fuel with
  | zero =>
    intro listed g h ρ w a I hcnt
    have hall : ∀ k, k < ops.size → Dn listed k := by
      intro k hk
      have hz : listed.toList.count false = 0 := by omega
      have hk' : k < listed.size := by rw [I.size]; exact hk
      unfold Dn
      rw [Array.getD_eq_getD_getElem?, Array.getElem?_eq_getElem hk']
      simp only [Option.getD_some]
      cases hv : listed[k] with
      | true => rfl
      | false =>
        rw [List.count_eq_zero] at hz
        exact absurd (by rw [← hv]; simp) hz
    refine ⟨?_, finish I hall⟩
    cases hr : Region.ready .any ops listed with
    | nil => rfl
    | cons i l =>
      have : i ∈ Region.ready .any ops listed := by rw [hr]; simp
      obtain ⟨o, h1, h2, _⟩ := (ready_iff I.size i).1 this
      exact absurd (hall i (Array.getElem?_eq_some_iff.1 h1).1) h2
  | succ fuel ih =>
    intro listed g h ρ w a I hcnt
    refine ⟨fun hr => finish I (all_listed hd I.size hr), fun i hi => ?_⟩
    obtain ⟨o, ho, hni, hedges⟩ := (ready_iff I.size i).1 hi
    have hin : i < ops.size := (Array.getElem?_eq_some_iff.1 ho).1
    have hil : i < listed.size := by rw [I.size]; exact hin
    have hi' : i < ls.length := by omega
    obtain ⟨p, hp⟩ : ∃ p, ls[i]? = some p := ⟨ls[i], by simp [hi']⟩
    -- what has to come first has come
    have first : ∀ k, ((Region.before ops).getD i 0).testBit k = true → Dn listed k := by
      intro k hk
      obtain ⟨o', h1, e, h2, h3, h4⟩ := before_spec ops i k hk
      rw [ho] at h1
      cases h1
      rcases h4 with rfl | h4
      · exact hedges e h2 h3
      · have hlt := drawOk_edges hd ho h2 h3
        exact I.down e.on (by omega) (hedges e h2 h3) k h4
    -- of those that clash with i on a place, those are done that come first
    have sorted : ∀ (Wr : Nat → Prop), (∀ k, k < ops.size → Wr k → k < i → ((Region.before ops).getD i 0).testBit k = true) → (∀ k, k < ops.size → Wr k → i < k → ((Region.before ops).getD k 0).testBit i = true) →
        ∀ k, k < ops.size → Wr k → (Dn listed k ↔ k < i) := by
      intro Wr h1 h2 k hk hw
      constructor
      · intro hdk
        rcases Nat.lt_trichotomy k i with h | h | h
        · exact h
        · subst h; exact absurd hdk hni
        · exact absurd (I.down k hk hdk i (h2 k hk hw h)) hni
      · intro h
        exact first k (h1 k hk hw h)
    have bit_or : ∀ x y, (((Region.before ops).getD y 0).testBit x = true) ∨ (((Region.before ops).getD y 0).testBit x = false) := fun x y => by cases ((Region.before ops).getD y 0).testBit x <;> simp
    -- slots that i looks at
    have look : ∀ x, x ∈ o.looksAt ops → g.get x = (F i).get x := by
      intro x hx
      by_cases hxn : x < (F 0).n
      · obtain ⟨m, h1, h2⟩ := I.slots x hxn
        rw [h2]
        refine h1.val (val := fun k => (F k).get x) (stF x) (by omega) (sorted _ ?_ ?_)
        · rintro k hk ⟨ok', h3, h4⟩ hlt
          rcases bit_or k i with h5 | h5
          · exact h5
          · have := (Oper.apart_spec (drawOk_apart hd hlt h3 ho h5)).1 x h4
            exact absurd hx this
        · rintro k hk ⟨ok', h3, h4⟩ hlt
          rcases bit_or i k with h5 | h5
          · exact h5
          · have := (Oper.apart_spec (drawOk_apart hd hlt ho h3 h5)).2.2 x h4
            exact absurd hx this
      · rw [I.out x hxn]
        have : ∀ k, k ≤ ops.size → (F k).get x = (F 0).get x := by
          intro k
          induction k with
          | zero => intro _; rfl
          | succ k ih =>
            intro hk
            rw [L.put k ops[k] (by simp [show k < ops.size by omega]), Fr.get_put (by rw [hFn k (by omega)]; exact hFs), if_neg, ih (by omega)]
            rintro ⟨_, h2⟩
            rw [hFn k (by omega)] at h2
            exact hxn h2
        exact (this i (by omega)).symm
    -- blocks that i reads
    have reads : ∀ id, id ∈ p.1 → h.get id = (S i).heap.get id := by
      intro id hid
      obtain ⟨m, h1, h2⟩ := I.heap id
      rw [h2]
      refine h1.val (val := fun k => (S k).heap.get id) (stS id) (by omega) (sorted _ ?_ ?_)
      · rintro k hk ⟨q, h3, h4⟩ hlt
        refine hcl k i q p hlt h3 hp ?_
        unfold clash
        simp only [Bool.or_eq_true]
        exact .inr (.inr ((meet_iff _ _).2 ⟨id, h4, hid⟩))
      · rintro k hk ⟨q, h3, h4⟩ hlt
        refine hcl i k p q hlt hp h3 ?_
        unfold clash
        simp only [Bool.or_eq_true]
        exact .inl ((meet_iff _ _).2 ⟨id, h4, hid⟩)
    -- the reading of i from here
    obtain ⟨t', g1, g2, g3, g4⟩ := L.again i o p (by simpa using ho) hp { heap := h, next := (S i).next, rl := [], wl := [] } rfl reads
    rw [aoper_congr (f := F i) (g := g) (by rw [hFn i (by omega), I.n]) (fun x hx => (look x hx).symm)] at g1
    have hGi : G ≤ (S i).next := by
      have := mono_next (S := S) (n := ops.size) (fun k hk => L.mono k (by simpa using hk)) i 0 (by omega)
      rw [Nat.zero_add] at this
      omega
    have hmi := L.mono i (by simpa using hin)
    refine aoper_step ok hc ho (s := { heap := h, next := (S i).next, rl := [], wl := [] }) (s' := t') I.rel hGi (by rw [g2]; exact I.fresh i hin hni) I.fr (hop o (by
      have := List.mem_of_getElem? (l := ops.toList) (i := i) (a := o) (by simpa using ho)
      exact this)) g1 fun v' w' ρ' e1 r1 hv => ?_
    rw [g2] at e1
    refine ih (listed.setIfInBounds i true) (g.put o.dst (V i)) t'.heap ρ' w' (a.put o.dst v') ?_ ?_
    rotate_left
    · -- one fewer
      have hlt : i < listed.toList.length := by simpa using hil
      have hv0 : listed.toList[i] = false := by
        unfold Dn at hni
        rw [Array.getD_eq_getD_getElem?, Array.getElem?_eq_getElem hil] at hni
        simpa using hni
      have : (listed.setIfInBounds i true).toList = listed.toList.set i true := by simp
      have e1 : ((false : Bool) == false) = true := rfl
      have e2 : ((true : Bool) == false) = false := rfl
      rw [this, List.count_set hlt, hv0, e1, e2]
      simp only [if_true, Bool.false_eq_true, if_false]
      have hpos : 0 < List.count false listed.toList := List.count_pos_iff.2 (by rw [← hv0]; exact List.getElem_mem hlt)
      omega
    · have hD := fun k => Dn_set (listed := listed) hil k
      refine ⟨by simp [I.size], fun j hj hdj k hk => ?_, by rw [Fr.n_put, I.n], by rw [Fr.marks_put, I.marks], fun x hx => ?_, fun x hx => ?_, fun id => ?_, r1, ?_, ?_, fun k hk hnk => ?_⟩
      · rw [hD]
        rcases (hD j).1 hdj with h1 | rfl
        · exact .inl (I.down j hj h1 k hk)
        · exact .inl (first k hk)
      · by_cases hw : o.dst = some x
        · refine ⟨i + 1, Last.add hin hD ⟨o, ho, hw⟩ ?_, ?_⟩
          · intro k hk hdk hwk
            refine (sorted (fun k => ∃ o, ops[k]? = some o ∧ o.dst = some x) ?_ ?_ k hk hwk).1 hdk
            · rintro k hk ⟨ok', h3, h4⟩ hlt
              rcases bit_or k i with h5 | h5
              · exact h5
              · exact absurd hw ((Oper.apart_spec (drawOk_apart hd hlt h3 ho h5)).2.1 x h4)
            · rintro k hk ⟨ok', h3, h4⟩ hlt
              rcases bit_or i k with h5 | h5
              · exact h5
              · exact absurd h4 ((Oper.apart_spec (drawOk_apart hd hlt ho h3 h5)).2.1 x hw)
          · rw [L.put i o (by simpa using ho), Fr.get_put (by rw [I.n]; exact hFs), Fr.get_put (by rw [hFn i (by omega)]; exact hFs), if_pos ⟨hw, by rw [I.n]; exact hx⟩, if_pos ⟨hw, by rw [hFn i (by omega)]; exact hx⟩]
        · obtain ⟨m, h1, h2⟩ := I.slots x hx
          refine ⟨m, h1.keep hD ?_, ?_⟩
          · rintro ⟨o', h3, h4⟩
            rw [ho] at h3; cases h3
            exact hw h4
          · rw [Fr.get_put (by rw [I.n]; exact hFs), if_neg (fun hh => hw hh.1), h2]
      · rw [Fr.get_put (by rw [I.n]; exact hFs), if_neg (fun hh => hx (by rw [← I.n]; exact hh.2))]
        exact I.out x hx
      · by_cases hw : id ∈ p.2
        · refine ⟨i + 1, Last.add hin hD ⟨p, hp, hw⟩ ?_, g3 id hw⟩
          intro k hk hdk hwk
          refine (sorted (fun k => ∃ p, ls[k]? = some p ∧ id ∈ p.2) ?_ ?_ k hk hwk).1 hdk
          · rintro k hk ⟨q, h3, h4⟩ hlt
            refine hcl k i q p hlt h3 hp ?_
            unfold clash
            simp only [Bool.or_eq_true]
            exact .inr (.inl ((meet_iff _ _).2 ⟨id, hw, h4⟩))
          · rintro k hk ⟨q, h3, h4⟩ hlt
            refine hcl i k p q hlt hp h3 ?_
            unfold clash
            simp only [Bool.or_eq_true]
            exact .inr (.inl ((meet_iff _ _).2 ⟨id, h4, hw⟩))
        · obtain ⟨m, h1, h2⟩ := I.heap id
          refine ⟨m, h1.keep hD ?_, by rw [g4 id hw]; exact h2⟩
          rintro ⟨q, h3, h4⟩
          rw [hp] at h3; cases h3
          exact hw h4
      · exact (I.fr.mono e1.sub).put _ hv
      · intro id
        have m1 := mono_next (S := S) (n := ops.size) (fun k hk => L.mono k (by simpa using hk)) i 0 (by omega)
        have m2 := mono_next (S := S) (n := ops.size) (fun k hk => L.mono k (by simpa using hk)) (ops.size - (i + 1)) (i + 1) (by omega)
        rw [Nat.zero_add] at m1
        rw [show i + 1 + (ops.size - (i + 1)) = ops.size by omega] at m2
        rcases e1 id with e | ⟨e, h1, h2⟩
        · rw [e]; exact I.ext id
        · rcases I.ext id with e' | ⟨e', _, _⟩
          · refine .inr ⟨by rw [← e']; exact e, ?_, ?_⟩
            · exact Nat.le_trans m1 h1
            · exact Nat.lt_of_lt_of_le h2 m2
          · refine .inr ⟨e', ?_, ?_⟩
            · exact Nat.le_trans m1 h1
            · exact Nat.lt_of_lt_of_le h2 m2
      · have hnk' : ¬ Dn listed k ∧ k ≠ i := ⟨fun h => hnk ((hD k).2 (.inl h)), fun h => hnk ((hD k).2 (.inr h))⟩
        intro id h1 h2
        rcases e1 id with e | ⟨e, h3, h4⟩
        · rw [e]; exact I.fresh k hk hnk'.1 id h1 h2
        · exfalso
          dsimp only at h3
          rcases Nat.lt_or_gt_of_ne hnk'.2 with h | h
          · have := mono_next (S := S) (n := ops.size) (fun k hk => L.mono k (by simpa using hk)) (i - (k + 1)) (k + 1) (by omega)
            rw [show k + 1 + (i - (k + 1)) = i by omega] at this
            omega
          · have := mono_next (S := S) (n := ops.size) (fun k hk => L.mono k (by simpa using hk)) (k - (i + 1)) (i + 1) (by omega)
            rw [show i + 1 + (k - (i + 1)) = k by omega] at this
            omega
end
end Go.Abs

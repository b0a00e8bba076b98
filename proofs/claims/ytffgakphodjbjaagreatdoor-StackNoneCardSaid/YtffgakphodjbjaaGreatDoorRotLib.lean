/- Oracles of two of the library's functions, out of their contracts; a start where a library's number lies. -/
import Derived.Test.YtffgakphodjbjaaGreatDoorRotTop2
import Derived.Lib.Join
import Derived.Lib.Replace
import Derived.Lib.CountLaws
set_option linter.unusedVariables false
set_option linter.unusedSimpArgs false
namespace Go.Abs
open Go.RowKit

def strsOf : List Value → Option (List ByteArray)
  | [] => some []
  | .string s :: r => match strsOf r with
    | some l => some (s :: l)
    | none => none
  | _ => none
theorem strsOf_ok : ∀ {c : List Value} {xs : List ByteArray}, strsOf c = some xs → c = xs.map .string
  | [], xs, h => by cases h; rfl
  | v :: r, xs, h => by
    cases v with
    | string s =>
      unfold strsOf at h
      cases hr : strsOf r with
      | none => rw [hr] at h; cases h
      | some l => rw [hr] at h; cases h; rw [strsOf_ok hr]; rfl
    | _ => cases h
def limS : Nat := 140737488355328
noncomputable section
def joinC (id off n : Nat) (sep : ByteArray) : M Value := (readAt id off n).bind fun cs => (M.of (strsOf cs)).bind fun xs =>
  bif Nat.ble n limS && Nat.ble (Lib.join (xs.map (·.data.toList)) sep.data.toList).length limS then M.pure (.string ⟨⟨Lib.join (xs.map (·.data.toList)) sep.data.toList⟩⟩) else M.fail
def joinV (x y : Value) : M Value := match y with
  | .string sep => match x with
    | .slice none 0 0 => M.pure (.string ⟨⟨[]⟩⟩)
    | .slice (some ⟨id, off, none⟩) n c => bif Nat.beq n 0 then M.pure (.string ⟨⟨[]⟩⟩) else bif Nat.beq c 0 || Nat.ble (n + 1) c then joinC id off n sep else M.fail
    | _ => M.fail
  | _ => M.fail
def joinO (args : List Value) : M Value := match args with
  | [x, y] => joinV x y
  | _ => M.fail
theorem framed_joinO (args : List Value) : Framed (joinO args) := by
  unfold joinO
  split
  · unfold joinV
    split
    · split
      · exact Framed.pure _
      · exact Framed.ite (Framed.pure _) (Framed.ite ((framed_readAt _ _ _).bind fun _ => (Framed.of _).bind fun _ => Framed.ite (Framed.pure _) Framed.fail) Framed.fail)
      · exact Framed.fail
    · exact Framed.fail
  · exact Framed.fail
section
variable {P : Program} {G : Nat} {g : FuncId}
/-- What strings.Join's contract says. -/
structure JoinSays (P : Program) (g : FuncId) : Prop where
  none : ∀ (a : Option Addr) (c : Nat) (sep : ByteArray) (w : World), Calls P g #[.slice a 0 c, .string sep] w fun e w' => e = .returned (.string ⟨#[]⟩) ∧ w' = w
  some : ∀ (bk o c : Nat) (xs : List ByteArray) (sep : ByteArray) (w : World) (hcells : ∀ (j : Nat) x, xs[j]? = .some x → w.cell? ⟨bk, o + j, .none⟩ = .some (.string x)) (hbk : bk < w.heap.size) (hN : xs.length ≤ 140737488355328) (hcap : xs.length ≤ c)
    (hlen : (Lib.join (xs.map (·.data.toList)) sep.data.toList).length ≤ 140737488355328),
    Calls P g #[.slice (.some ⟨bk, o, .none⟩) xs.length c, .string sep] w fun e w' => e = .returned (.string ⟨(Lib.join (xs.map (·.data.toList)) sep.data.toList).toArray⟩) ∧ Below w.heap.size w w'
theorem all2_two {α β : Type} {R : α → β → Prop} {x y : α} {l : List β} (h : All2 R [x, y] l) : ∃ x' y', l = [x', y'] ∧ R x x' ∧ R y y' := by
  cases h with
  | cons h1 h => cases h with
    | cons h2 h => cases h; exact ⟨_, _, rfl, h1, h2⟩
theorem all2_three {α β : Type} {R : α → β → Prop} {x y z : α} {l : List β} (h : All2 R [x, y, z] l) : ∃ x' y' z', l = [x', y', z'] ∧ R x x' ∧ R y y' ∧ R z z' := by
  cases h with
  | cons h1 h => cases h with
    | cons h2 h => cases h with
      | cons h3 h => cases h; exact ⟨_, _, _, rfl, h1, h2, h3⟩
theorem joinO_ok (J : JoinSays P g) (B : Nat) (w0 : World) (args : List Value) (s s' : St) (v : Value) (h : joinO args s = .ok v s') (ρ : Ren) (w : World) (args' : List Value) (r : Rel G B w0 ρ s.heap w)
    (hG : G ≤ s.next) (hf : Fresh ρ s.next s'.next) (ha : All2 (VR ρ) args args') : Calls P g ⟨args'⟩ w (Hands G B w0 ρ s s' v) := by
  unfold joinO at h
  split at h
  · rename_i x y
    obtain ⟨x', y', rfl, hx, hy⟩ := all2_two ha
    unfold joinV at h
    split at h
    · rename_i sep
      obtain rfl := hy.str
      split at h
      · obtain ⟨rfl, rfl⟩ := pure_ok h
        obtain rfl := hx.plain_eq rfl
        refine (J.none _ _ sep w).mono ?_
        rintro e w' ⟨rfl, rfl⟩
        exact ⟨_, ρ, rfl, Ext.refl _ _ _, r, VR.of_plain rfl⟩
      · rename_i id off n c
        cases hn : Nat.beq n 0 with
        | true =>
          rw [hn] at h
          obtain ⟨rfl, rfl⟩ := pure_ok h
          have hn := Nat.eq_of_beq_eq_true hn
          subst hn
          obtain ⟨l, a, cap, _, rfl, _⟩ := hx.slice
          refine (J.none _ _ sep w).mono ?_
          rintro e w' ⟨rfl, rfl⟩
          exact ⟨_, ρ, rfl, Ext.refl _ _ _, r, VR.of_plain rfl⟩
        | false =>
          rw [hn] at h
          have hn := Nat.ne_of_beq_eq_false hn
          obtain ⟨hc, h⟩ := cond_ok (show (bif Nat.beq c 0 || Nat.ble (n + 1) c then joinC id off n sep else M.fail) s = _ from h)
          unfold joinC at h
          obtain ⟨cs, s1, h1, h2⟩ := bind_ok h
          obtain ⟨cells, es, own, old, par, hg, hw, he, hnx⟩ := readAt_ok h1
          obtain ⟨xs, s2, h3, h4⟩ := bind_ok h2
          obtain ⟨h5, rfl⟩ := of_ok h3
          have hxs := strsOf_ok h5
          obtain ⟨hb, h6⟩ := cond_ok h4
          obtain ⟨rfl, rfl⟩ := pure_ok h6
          simp only [Bool.and_eq_true] at hb
          have hb1 := Nat.le_of_ble_eq_true hb.1
          have hb2 := Nat.le_of_ble_eq_true hb.2
          have hlen : xs.length = n := by
            have := (window_ok hw).2.2
            rw [hxs] at this
            simpa using this
          obtain ⟨l, cap, hl, hcap, rfl⟩ : ∃ l cap, ρ id = some l ∧ n ≤ cap ∧ x' = .slice (some ⟨l.k, l.d + off, none⟩) n cap := by
            cases c with
            | zero =>
              obtain ⟨l, hl, h | ⟨h0, _⟩⟩ := hx.sliceU
              · obtain ⟨cap, hcap, hfin, rfl⟩ := h
                exact ⟨l, cap, hl, hcap, rfl⟩
              · exact absurd h0 hn
            | succ c =>
              obtain ⟨l, hl, rfl⟩ := hx.sliceK
              refine ⟨l, c, hl, ?_, rfl⟩
              have : Nat.ble (n + 1) (c + 1) = true := by simpa using hc
              have := Nat.le_of_ble_eq_true this
              omega
          obtain ⟨ys, hall, hyl, hcell⟩ := r.reads hg hl hw
          obtain ⟨l', cr⟩ := r.blk id _ hg
          have hll : l' = l := by have := cr.at_; rw [hl] at this; cases this; rfl
          subst hll
          subst hlen
          refine (J.some l'.k (l'.d + off) cap xs sep w (fun j x hj => ?_) cr.lt hb1 hcap hb2).mono ?_
          · have hj' : cs[j]? = some (.string x) := by rw [hxs, List.getElem?_map, hj]; rfl
            obtain ⟨y, hy1, hy2⟩ := hall.get j _ hj'
            have := hy2.plain_eq rfl
            subst this
            exact hcell j _ hy1
          · rintro e w' ⟨rfl, hb⟩
            exact ⟨_, ρ, rfl, by rw [hnx]; exact Ext.refl _ _ _, by rw [he]; exact r.over hb, VR.of_plain rfl⟩
      · cases h
    · cases h
  · cases h

/-- strings.ReplaceAll; it asks that a number of the library's lies at its place. -/
def replV (gid : Nat) (x y z : Value) : M Value := match x with
  | .string a => match y with
    | .string b => match z with
      | .string c => (readOne gid 0).bind fun m => match m with
        | .int .i64 _ => bif Nat.ble a.data.toList.length 4294967280 && (Nat.ble 1 b.data.toList.length && Nat.ble (a.data.toList.length + Lib.count a.data.toList b.data.toList * c.data.toList.length) limS) then
            M.pure (.string ⟨⟨Lib.replaceAll a.data.toList b.data.toList c.data.toList⟩⟩) else M.fail
        | _ => M.fail
      | _ => M.fail
    | _ => M.fail
  | _ => M.fail
def replO (gid : Nat) (args : List Value) : M Value := match args with
  | [x, y, z] => replV gid x y z
  | _ => M.fail
theorem framed_replO (gid : Nat) (args : List Value) : Framed (replO gid args) := by
  unfold replO
  split
  · unfold replV
    split
    · split
      · split
        · refine (framed_readOne _ _).bind fun m => ?_
          split
          · exact Framed.ite (Framed.pure _) Framed.fail
          · exact Framed.fail
        · exact Framed.fail
      · exact Framed.fail
    · exact Framed.fail
  · exact Framed.fail
/-- What strings.ReplaceAll's contract says. -/
def ReplSays (P : Program) (g : FuncId) (gid : Nat) : Prop := ∀ (s old new : ByteArray) (m : Int) (w : World) (hs : s.size < 4294967281) (hm : w.cell? ⟨gid, 0, none⟩ = some (.int .i64 m)) (h1 : 1 ≤ old.size)
    (hlen : s.size + Lib.countB s old * new.size ≤ 140737488355328),
    Calls P g #[.string s, .string old, .string new] w fun e w' =>
      e = .returned (.string ⟨(Lib.replaceAll s.data.toList old.data.toList new.data.toList).toArray⟩) ∧ Below w.heap.size w w'
theorem replO_ok {gid : Nat} (hgid : gid < G) (J : ReplSays P g gid) (B : Nat) (w0 : World) (args : List Value) (s s' : St) (v : Value) (h : replO gid args s = .ok v s') (ρ : Ren) (w : World) (args' : List Value) (r : Rel G B w0 ρ s.heap w)
    (hG : G ≤ s.next) (hf : Fresh ρ s.next s'.next) (ha : All2 (VR ρ) args args') : Calls P g ⟨args'⟩ w (Hands G B w0 ρ s s' v) := by
  unfold replO at h
  split at h
  · rename_i x y z
    obtain ⟨x', y', z', rfl, hx, hy, hz⟩ := all2_three ha
    unfold replV at h
    split at h <;> first | (cases h; done) | skip
    split at h <;> first | (cases h; done) | skip
    split at h <;> first | (cases h; done) | skip
    rename_i a _ b _ c
    obtain rfl := hx.str
    obtain rfl := hy.str
    obtain rfl := hz.str
    obtain ⟨m, s1, h1, h2⟩ := bind_ok h
    obtain ⟨cells, es, own, old, par, hg, hw, he, hnx⟩ := readOne_ok h1
    split at h2 <;> first | (cases h2; done) | skip
    rename_i q
    obtain ⟨hb, h3⟩ := cond_ok h2
    obtain ⟨rfl, rfl⟩ := pure_ok h3
    simp only [Bool.and_eq_true] at hb
    have hb1 := Nat.le_of_ble_eq_true hb.1
    have hb2 := Nat.le_of_ble_eq_true hb.2.1
    have hb3 := Nat.le_of_ble_eq_true hb.2.2
    obtain ⟨l, hl, hlk, hld⟩ := r.glob gid hgid
    obtain ⟨l', cr⟩ := r.blk gid _ hg
    have hll : l' = l := by have := cr.at_; rw [hl] at this; cases this; rfl
    subst hll
    obtain ⟨v', hv1, hv2⟩ := cr.val 0 _ hw
    have := hv2.plain_eq rfl
    subst this
    have hm : w.cell? ⟨gid, 0, none⟩ = some (.int .i64 q) := by
      rw [hlk, hld] at hv1
      exact hv1
    have e1 : ∀ x : ByteArray, x.size = x.data.toList.length := fun x => (Array.length_toList (xs := x.data)).symm
    refine (J a b c q w (by rw [e1]; omega) hm (by rw [e1]; exact hb2) (by rw [e1, e1]; exact hb3)).mono ?_
    rintro e w' ⟨rfl, hbl⟩
    exact ⟨_, ρ, rfl, by rw [hnx]; exact Ext.refl _ _ _, by rw [he]; exact r.over hbl, VR.of_plain rfl⟩
  · cases h

/-- The library's two. -/
def libOrc (gj gr gid : Nat) (g : FuncId) : Option (List Value → M Value) := fif (Nat.beq g gj) (some joinO) (fif (Nat.beq g gr) (some (replO gid)) none)
theorem libOrc_framed {gj gr gid : Nat} (g : FuncId) (h : List Value → M Value) (e : libOrc gj gr gid g = some h) (args : List Value) : Framed (h args) := by
  unfold libOrc at e
  rw [fif_eq] at e
  cases h1 : Nat.beq g gj with
  | true => rw [h1] at e; cases e; exact framed_joinO args
  | false => cases h2 : Nat.beq g gr with
    | true => rw [h1, h2] at e; cases e; exact framed_replO gid args
    | false => rw [h1, h2] at e; cases e
theorem libOrc_ok {gj gr gid : Nat} (hgid : gid < G) (J : JoinSays P gj) (K : ReplSays P gr gid) (g : FuncId) (h : List Value → M Value) (e : libOrc gj gr gid g = some h) :
    ∀ (B : Nat) (w0 : World) (args : List Value) (s s' : St) (v : Value), h args s = .ok v s' → ∀ (ρ : Ren) (w : World) (args' : List Value), Rel G B w0 ρ s.heap w → G ≤ s.next → Fresh ρ s.next s'.next → All2 (VR ρ) args args' →
      Calls P g ⟨args'⟩ w (Hands G B w0 ρ s s' v) := by
  unfold libOrc at e
  rw [fif_eq] at e
  cases h1 : Nat.beq g gj with
  | true =>
    rw [h1] at e
    cases e
    have := Nat.eq_of_beq_eq_true h1
    subst this
    exact fun B w0 args s s' v h ρ w args' r hG hf ha => joinO_ok J B w0 args s s' v h ρ w args' r hG hf ha
  | false => cases h2 : Nat.beq g gr with
    | true =>
      rw [h1, h2] at e
      cases e
      have := Nat.eq_of_beq_eq_true h2
      subst this
      exact fun B w0 args s s' v h ρ w args' r hG hf ha => replO_ok hgid K B w0 args s s' v h ρ w args' r hG hf ha
    | false => rw [h1, h2] at e; cases e

/-! ## A start where a number lies -/
def ρ1 (G gid : Nat) : Ren := fun id => if id < G then some (if id = gid then ⟨id, 0, 1, 1⟩ else ⟨id, 0, 0, 0⟩) else none
def startN (G gid : Nat) (m : Int) : St := { heap := (T.nil : T Blk).set (.cells [.int .i64 m] 1 false false []) 64 gid, next := G, rl := [], wl := [] }
theorem rel_startN {gid : Nat} (hgid : gid < G) (hG : G < bound) {m : Int} (w : World) (hm : w.cell? ⟨gid, 0, none⟩ = some (.int .i64 m)) : Rel G w.heap.size w (ρ1 G gid) (startN G gid m).heap w := by
  have hb : Nat.blt gid bound = true := by rw [Nat.blt_eq]; omega
  have hget : ∀ id b, (startN G gid m).heap.get id = some b → id = gid ∧ b = .cells [.int .i64 m] 1 false false [] := fun id b h => by
    have h : ((T.nil : T Blk).set (.cells [.int .i64 m] 1 false false []) 64 gid).get id = some b := h
    rw [T.get_set _ _ _ _ hb] at h
    by_cases e : id = gid
    · rw [if_pos e] at h
      cases h
      exact ⟨e, rfl⟩
    · rw [if_neg e, T.get_nil] at h
      cases h
  have hρ : ρ1 G gid gid = some ⟨gid, 0, 1, 1⟩ := by unfold ρ1; rw [if_pos hgid, if_pos rfl]
  have hcell : ∃ c t fz, w.heap[gid]? = some (.cells c t fz) := by
    unfold World.cell? at hm
    dsimp only at hm
    cases hh : w.heap[gid]? with
    | none => rw [hh] at hm; cases hm
    | some o =>
      rw [hh] at hm
      cases o with
      | cells c t fz => exact ⟨c, t, fz, rfl⟩
      | _ => cases hm
  refine ⟨Below.refl _ _, Nat.le_refl _, fun g hg => ?_, fun id b h => ?_, fun i j bi bj li lj hij hi hj => ?_⟩
  · unfold ρ1
    rw [if_pos hg]
    by_cases e : g = gid
    · exact ⟨_, rfl, by rw [if_pos e], by rw [if_pos e]⟩
    · exact ⟨_, rfl, by rw [if_neg e], by rw [if_neg e]⟩
  · obtain ⟨rfl, rfl⟩ := hget id b h
    refine ⟨⟨id, 0, 1, 1⟩, hρ, rfl, fun h => (by cases h), ?_, hcell, fun j hj => ?_, fun h => (by cases h), fun i v hi => ?_, Nat.le_refl _⟩
    · obtain ⟨c, t, fz, hc⟩ := hcell
      exact (Array.getElem?_eq_some_iff.1 hc).1
    · have hj0 : j = 0 := by simp at hj; omega
      subst hj0
      show (w.cell? ⟨id, 0, none⟩).isSome = true
      rw [hm]; rfl
    · cases i with
      | zero =>
        simp at hi
        subst hi
        exact ⟨_, hm, .base (.same rfl)⟩
      | succ i => simp at hi
  · exact absurd ((hget i bi hi).1.trans (hget j bj hj).1.symm) hij
end
theorem says_at {E : Env} {G : Nat} (ok : RunOk E G) (N n : Nat) {g : FuncId} {gid : Nat} (hgid : gid < G) (hG : G < bound) {m : Int} (h : isTrue (krun E N n g [] (startN G gid m)) = true) (w : World) (hm : w.cell? ⟨gid, 0, none⟩ = some (.int .i64 m)) :
    Calls E.P g #[] w fun e w' => e = .returned (.bool true) ∧ Below w.heap.size w w' := by
  rw [krun_eq] at h
  obtain ⟨s', hs⟩ := isTrue_ok h
  have hf : Fresh (ρ1 G gid) (startN G gid m).next s'.next := fun id h1 _ => by
    unfold ρ1
    rw [if_neg]
    have : (startN G gid m).next = G := rfl
    omega
  refine ((acall_sound ok N n).fn _ _ g [] (startN G gid m) s' _ hs (ρ1 G gid) w [] (rel_startN hgid hG w hm) (Nat.le_refl _) hf .nil).mono ?_
  rintro e w' ⟨v', ρ', rfl, _, r, hvr⟩
  exact ⟨by rw [hvr.bool], r.below⟩
end
end Go.Abs

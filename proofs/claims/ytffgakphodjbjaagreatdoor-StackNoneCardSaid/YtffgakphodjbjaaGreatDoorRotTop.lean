/- A closed computation that the evaluator reads is what the program's call does. -/
import Derived.Test.YtffgakphodjbjaaGreatDoorRotRun
set_option linter.unusedVariables false
set_option linter.unusedSimpArgs false
namespace Go.Abs
open Go.RowKit

theorem mkTab_get {α : Type} : ∀ (l : List α) (i t : Nat), i + l.length ≤ bound → (mkTab i l).get t = if i ≤ t then l[t - i]? else none
  | [], i, t, _ => by
    unfold mkTab
    rw [T.get_nil]
    split <;> simp
  | f :: fs, i, t, h => by
    unfold mkTab
    have hb : Nat.blt i bound = true := by rw [Nat.blt_eq]; simp at h; omega
    rw [T.get_set _ _ _ _ hb, mkTab_get fs (i + 1) t (by simp at h; omega)]
    by_cases e : t = i
    · subst e; simp
    · rw [if_neg e]
      by_cases h1 : i + 1 ≤ t
      · rw [if_pos h1, if_pos (by omega), show t - i = (t - (i + 1)) + 1 by omega]
        simp
      · rw [if_neg h1, if_neg (by omega)]

/-- What is asked of the types. -/
def zeroOk (i : TypeInfo) : Bool := match i.zero with
  | none => true
  | some z => Nat.beq (vcells z).length i.size && (vcells z).all plain1
noncomputable def fieldOk (tab : T TypeInfo) (n : Nat) (i : TypeInfo) : Bool := match underOf tab i.desc with
  | some (.struct fs) => fs.toList.all fun f => Nat.blt f.type n
  | _ => true
/-- .. of the functions. -/
def nameOk (f : Func) : Bool := !(f.name == "runtime.NumGoroutine")
def bodyOk (G : Nat) (f : Func) : Bool := match f.body with
  | none => true
  | some c => codeOk G c

theorem all_get {α : Type} {p : α → Bool} {l : List α} (h : l.all p = true) {i : Nat} {a : α} (ha : l[i]? = some a) : p a = true :=
  List.all_eq_true.1 h a (List.mem_of_getElem? ha)

theorem runOk_of {E : Env} {G : Nat} (hG : E.glob = G) (ht : E.types = mkTab 0 E.P.types.toList) (nt : E.P.types.toList.length ≤ bound) (hf : E.funcs = mkTab 0 E.P.funcs.toList) (nf : E.P.funcs.toList.length ≤ bound) (hm : E.P.follows .mixedOrders = true)
    (h1 : E.P.types.toList.all zeroOk = true) (h2 : E.P.types.toList.all (fieldOk E.types E.P.types.toList.length) = true) (h3 : E.P.funcs.toList.all nameOk = true) (h4 : E.P.funcs.toList.all (bodyOk G) = true)
    (orcs : ∀ g h, E.orc g = some h → ∀ args, Framed (h args))
    (orc : ∀ g h, E.orc g = some h → ∀ (B : Nat) (w0 : World) (args : List Value) (s s' : St) (v : Value), h args s = .ok v s' → ∀ (ρ : Ren) (w : World) (args' : List Value), Rel G B w0 ρ s.heap w → G ≤ s.next → Fresh ρ s.next s'.next → All2 (VR ρ) args args' →
      Calls E.P g ⟨args'⟩ w (Hands G B w0 ρ s s' v)) : RunOk E G := by
  have gt : ∀ t, E.types.get t = E.P.types.toList[t]? := fun t => by rw [ht, mkTab_get _ _ _ (by simpa using nt)]; simp
  have gf : ∀ t, E.funcs.get t = E.P.funcs.toList[t]? := fun t => by rw [hf, mkTab_get _ _ _ (by simpa using nf)]; simp
  refine ⟨⟨fun t i hi => ?_, fun t i z hi hz => ?_, fun t i fs hi hu f hfs => ?_, fun g f hg => ?_⟩, hG, hm, fun g f c hg hb => ?_, orcs, orc⟩
  · rw [gt] at hi
    obtain ⟨hlt, hi⟩ := List.getElem?_eq_some_iff.1 hi
    have hlt' : t < E.P.types.size := by simpa using hlt
    subst hi
    simp [Tables.info?, hlt']
  · rw [gt] at hi
    have := all_get h1 hi
    unfold zeroOk at this
    rw [hz] at this
    simp only [Bool.and_eq_true] at this
    exact ⟨Nat.eq_of_beq_eq_true this.1, this.2⟩
  · rw [gt] at hi
    have := all_get h2 hi
    unfold fieldOk at this
    rw [hu] at this
    have := List.all_eq_true.1 this f hfs
    rw [Nat.blt_eq] at this
    refine ⟨E.P.types.toList[f.type], ?_⟩
    rw [gt]
    exact List.getElem?_eq_getElem this
  · rw [gf] at hg
    refine ⟨by simpa using hg, ?_⟩
    have := all_get h3 hg
    unfold nameOk at this
    simpa using this
  · rw [gf] at hg
    have := all_get h4 hg
    unfold bodyOk at this
    rw [hb] at this
    exact this

/-- The program's variables alone are known. -/
def ρ0 (G : Nat) : Ren := fun id => if id < G then some ⟨id, 0, 0, 0⟩ else none
theorem rel_start (G : Nat) (w : World) : Rel G w.heap.size w (ρ0 G) .nil w :=
  ⟨Below.refl _ _, Nat.le_refl _, fun g hg => ⟨⟨g, 0, 0, 0⟩, by unfold ρ0; rw [if_pos hg], rfl, rfl⟩, fun id b h => (by rw [T.get_nil] at h; cases h), fun i j bi bj li lj _ hi => (by rw [T.get_nil] at hi; cases hi)⟩

def start (G : Nat) : St := { heap := .nil, next := G, rl := [], wl := [] }

/-- A call without arguments whose value has no address in it. -/
theorem closed_calls {E : Env} {G : Nat} (ok : RunOk E G) (N n : Nat) {g : FuncId} {v : Value} (hv : plain v = true) (h : (match acall E N n (.fn g) [] (start G) with | .ok u _ => some u | .err _ => none) = some v) (w : World) :
    Calls E.P g #[] w fun e w' => e = .returned v ∧ Below w.heap.size w w' := by
  generalize hq : acall E N n (.fn g) [] (start G) = q at h
  cases q with
  | err c => cases h
  | ok u s' =>
    cases h
    have hf : Fresh (ρ0 G) (start G).next s'.next := fun id h1 _ => by
      unfold ρ0
      rw [if_neg]
      have : (start G).next = G := rfl
      omega
    refine ((acall_sound ok N n).fn _ _ g [] (start G) s' v hq (ρ0 G) w [] (rel_start G w) (Nat.le_refl _) hf .nil).mono ?_
    rintro e w' ⟨v', ρ', rfl, _, r, hvr⟩
    exact ⟨by rw [hvr.plain_eq hv], r.below⟩
end Go.Abs

/- The tied card of the closed law of nothing taken: whatever the input, it tells true. -/
import Derived.Test.YtffgakphodjbjaaGreatDoorZrotRow
namespace Go.Proofs.YtffgakphodjbjaaGreatDoor
open Go
theorem stackNone_card : Rows.StackNoneCardSaid :=
  Claim7.holds_tied_plain_at .later [] [.data, .data, .data, .data, .pinned] true (true, "133f727e016e1d406adff89a0385d7f7a3b1087965100a116d05de1b33654d32") false
    stackNone_holds (fun _ h => by cases h) (by kernel_rfl) (fun _ h => by cases h) stackNone_row_tie rfl ⟨rfl, rfl⟩ (by kernel_rfl) rfl
    (fun f fn hf hfn => by
      obtain rfl : f = 9 := Option.some.inj ((show Tryz.prog.funcNamed "rotulus/rotuluslaw22.StackNone" = some 9 by kernel_rfl).symm.trans hf) |>.symm
      obtain rfl : fn = Tryz.f9 := (Option.some.inj (Tryz.func9.symm.trans hfn)).symm
      exact ⟨by kernel_rfl, fun j t ht => by
        rw [Tryz.params9] at ht
        simp at ht⟩)
    (by kernel_rfl)
#print axioms stackNone_card
end Go.Proofs.YtffgakphodjbjaaGreatDoor

/-
  DERIVED. GIVEN WITH THE SEED: THE CARDS: each row of YtffgakphodjbjaaGreatDoorRows.lean that lists a variable, with what it lists TIED to the program's text (the seventh form; the later family's looks); each row that meets fmt, with fmt's text TOLD by the authors' own Lean function (tested against real Go, not proved from fmt's source: count such statements apart). THE CARD IS WHAT COUNTS. Prove the row's statement (the work); the ties are given (YtffgakphodjbjaaGreatDoorTie.lean); close each card by the builder's one call (the guide's Derived/Test/ToyasCard.lean, 'card_holds'). Laid BY PROGRAM, IN A SANDBOX (cutbox-door.mjs). By AI agents, Wed Nov 11 2026. No macro, syntax, notation, axiom, sorry.
-/
import Derived.Test.YtffgakphodjbjaaGreatDoorRows
import GoSem.ClaimSeven
namespace Go.Proofs.YtffgakphodjbjaaGreatDoor
namespace Rows

/-- THE TIED CARD OF 'rotuluslaw14.NfaPlain'. -/
def nfaPlainCard : Claim7 := { stood := { row := nfaPlainRow, standIns := [], harness := (true, "133f727e016e1d406adff89a0385d7f7a3b1087965100a116d05de1b33654d32"), looks := false }, kinds := [], alts := [], laidByText := true, laidKinds := [.data, .data, .data, .data, .pinned], laidTests := true, laidLooks := .later }
def NfaPlainCardSaid : Prop := Claim7.holds Tryz.pinned (.plain (OpenSpec.ofChange nfaPlainSpec)) nfaPlainCard

/-- THE TIED CARD OF 'rotuluslaw14.NfaAlt'. -/
def nfaAltCard : Claim7 := { stood := { row := nfaAltRow, standIns := [], harness := (true, "133f727e016e1d406adff89a0385d7f7a3b1087965100a116d05de1b33654d32"), looks := false }, kinds := [], alts := [], laidByText := true, laidKinds := [.data, .data, .data, .data, .pinned], laidTests := true, laidLooks := .later }
def NfaAltCardSaid : Prop := Claim7.holds Tryz.pinned (.plain (OpenSpec.ofChange nfaAltSpec)) nfaAltCard

/-- THE TIED CARD OF 'rotuluslaw22.StackAll'. -/
def stackAllCard : Claim7 := { stood := { row := stackAllRow, standIns := [], harness := (true, "133f727e016e1d406adff89a0385d7f7a3b1087965100a116d05de1b33654d32"), looks := false }, kinds := [], alts := [], laidByText := true, laidKinds := [.data, .data, .data, .data, .pinned], laidTests := true, laidLooks := .later }
def StackAllCardSaid : Prop := Claim7.holds Tryz.pinned (.plain (OpenSpec.ofChange stackAllSpec)) stackAllCard

/-- THE TIED CARD OF 'rotuluslaw22.StackRoom'. -/
def stackRoomCard : Claim7 := { stood := { row := stackRoomRow, standIns := [], harness := (true, "133f727e016e1d406adff89a0385d7f7a3b1087965100a116d05de1b33654d32"), looks := false }, kinds := [], alts := [], laidByText := true, laidKinds := [.data, .data, .data, .data, .pinned], laidTests := true, laidLooks := .later }
def StackRoomCardSaid : Prop := Claim7.holds Tryz.pinned (.plain (OpenSpec.ofChange stackRoomSpec)) stackRoomCard

/-- THE TIED CARD OF 'rotuluslaw22.StackOsc'. -/
def stackOscCard : Claim7 := { stood := { row := stackOscRow, standIns := [], harness := (true, "133f727e016e1d406adff89a0385d7f7a3b1087965100a116d05de1b33654d32"), looks := false }, kinds := [], alts := [], laidByText := true, laidKinds := [.data, .data, .data, .data, .pinned], laidTests := true, laidLooks := .later }
def StackOscCardSaid : Prop := Claim7.holds Tryz.pinned (.plain (OpenSpec.ofChange stackOscSpec)) stackOscCard

/-- THE TIED CARD OF 'rotuluslaw22.StackNames'. -/
def stackNamesCard : Claim7 := { stood := { row := stackNamesRow, standIns := [], harness := (true, "133f727e016e1d406adff89a0385d7f7a3b1087965100a116d05de1b33654d32"), looks := false }, kinds := [], alts := [], laidByText := true, laidKinds := [.data, .data, .data, .data, .pinned], laidTests := true, laidLooks := .later }
def StackNamesCardSaid : Prop := Claim7.holds Tryz.pinned (.plain (OpenSpec.ofChange stackNamesSpec)) stackNamesCard

/-- THE TIED CARD OF 'rotuluslaw22.StackNone'. -/
def stackNoneCard : Claim7 := { stood := { row := stackNoneRow, standIns := [], harness := (true, "133f727e016e1d406adff89a0385d7f7a3b1087965100a116d05de1b33654d32"), looks := false }, kinds := [], alts := [], laidByText := true, laidKinds := [.data, .data, .data, .data, .pinned], laidTests := true, laidLooks := .later }
def StackNoneCardSaid : Prop := Claim7.holds Tryz.pinned (.plain (OpenSpec.ofChange stackNoneSpec)) stackNoneCard

/-- THE SECOND FORM's CARD OF 'rotuluslaw14.NfaPlain'. -/
def nfaPlainUptoCard : Claim7 := { stood := { row := nfaPlainUptoRow, standIns := [], harness := (true, "133f727e016e1d406adff89a0385d7f7a3b1087965100a116d05de1b33654d32"), looks := false }, kinds := [], alts := [], laidByText := true, laidKinds := [.data, .data, .data, .data, .pinned], laidTests := true, laidLooks := .later }
def NfaPlainUptoCardSaid : Prop := Claim7.holds Tryz.pinned (.plain (OpenSpec.upto nfaPlainSpec)) nfaPlainUptoCard

/-- THE SECOND FORM's CARD OF 'rotuluslaw14.NfaAlt'. -/
def nfaAltUptoCard : Claim7 := { stood := { row := nfaAltUptoRow, standIns := [], harness := (true, "133f727e016e1d406adff89a0385d7f7a3b1087965100a116d05de1b33654d32"), looks := false }, kinds := [], alts := [], laidByText := true, laidKinds := [.data, .data, .data, .data, .pinned], laidTests := true, laidLooks := .later }
def NfaAltUptoCardSaid : Prop := Claim7.holds Tryz.pinned (.plain (OpenSpec.upto nfaAltSpec)) nfaAltUptoCard

/-- THE SECOND FORM's CARD OF 'rotuluslaw22.StackAll'. -/
def stackAllUptoCard : Claim7 := { stood := { row := stackAllUptoRow, standIns := [], harness := (true, "133f727e016e1d406adff89a0385d7f7a3b1087965100a116d05de1b33654d32"), looks := false }, kinds := [], alts := [], laidByText := true, laidKinds := [.data, .data, .data, .data, .pinned], laidTests := true, laidLooks := .later }
def StackAllUptoCardSaid : Prop := Claim7.holds Tryz.pinned (.plain (OpenSpec.upto stackAllSpec)) stackAllUptoCard

/-- THE SECOND FORM's CARD OF 'rotuluslaw22.StackRoom'. -/
def stackRoomUptoCard : Claim7 := { stood := { row := stackRoomUptoRow, standIns := [], harness := (true, "133f727e016e1d406adff89a0385d7f7a3b1087965100a116d05de1b33654d32"), looks := false }, kinds := [], alts := [], laidByText := true, laidKinds := [.data, .data, .data, .data, .pinned], laidTests := true, laidLooks := .later }
def StackRoomUptoCardSaid : Prop := Claim7.holds Tryz.pinned (.plain (OpenSpec.upto stackRoomSpec)) stackRoomUptoCard

/-- THE SECOND FORM's CARD OF 'rotuluslaw22.StackOsc'. -/
def stackOscUptoCard : Claim7 := { stood := { row := stackOscUptoRow, standIns := [], harness := (true, "133f727e016e1d406adff89a0385d7f7a3b1087965100a116d05de1b33654d32"), looks := false }, kinds := [], alts := [], laidByText := true, laidKinds := [.data, .data, .data, .data, .pinned], laidTests := true, laidLooks := .later }
def StackOscUptoCardSaid : Prop := Claim7.holds Tryz.pinned (.plain (OpenSpec.upto stackOscSpec)) stackOscUptoCard

/-- THE SECOND FORM's CARD OF 'rotuluslaw22.StackNames'. -/
def stackNamesUptoCard : Claim7 := { stood := { row := stackNamesUptoRow, standIns := [], harness := (true, "133f727e016e1d406adff89a0385d7f7a3b1087965100a116d05de1b33654d32"), looks := false }, kinds := [], alts := [], laidByText := true, laidKinds := [.data, .data, .data, .data, .pinned], laidTests := true, laidLooks := .later }
def StackNamesUptoCardSaid : Prop := Claim7.holds Tryz.pinned (.plain (OpenSpec.upto stackNamesSpec)) stackNamesUptoCard

/-- THE SECOND FORM's CARD OF 'rotuluslaw22.StackNone'. -/
def stackNoneUptoCard : Claim7 := { stood := { row := stackNoneUptoRow, standIns := [], harness := (true, "133f727e016e1d406adff89a0385d7f7a3b1087965100a116d05de1b33654d32"), looks := false }, kinds := [], alts := [], laidByText := true, laidKinds := [.data, .data, .data, .data, .pinned], laidTests := true, laidLooks := .later }
def StackNoneUptoCardSaid : Prop := Claim7.holds Tryz.pinned (.plain (OpenSpec.upto stackNoneSpec)) stackNoneUptoCard
end Rows
end Go.Proofs.YtffgakphodjbjaaGreatDoor

/-
  DERIVED. GIVEN WITH THE SEED: THE CARDS: each row of YtckfgkmfeklcmaaGreatDoorRows.lean that lists a variable, with what it lists TIED to the program's text (the seventh form; the later family's looks); each row that meets fmt, with fmt's text TOLD by the authors' own Lean function (tested against real Go, not proved from fmt's source: count such statements apart). THE CARD IS WHAT COUNTS. Prove the row's statement (the work); the ties are given (YtckfgkmfeklcmaaGreatDoorTie.lean); close each card by the builder's one call (the guide's Derived/Test/ToyasCard.lean, 'card_holds'). Laid BY PROGRAM, IN A SANDBOX (cutbox-door.mjs). By AI agents, Wed Nov 11 2026. No macro, syntax, notation, axiom, sorry.
-/
import Derived.Test.YtckfgkmfeklcmaaGreatDoorRows
import GoSem.ClaimSeven
namespace Go.Proofs.YtckfgkmfeklcmaaGreatDoor
namespace Rows

/-- THE TIED CARD OF 'pleacherlaw05.TokenPuts'. -/
def tokenPutsCard : Claim7 := { stood := { row := tokenPutsRow, standIns := [], harness := (true, "9b751ecd213dd1a368ee5106e74fed4086836cf3371db1b04b2d4b18bb24e921"), looks := true }, kinds := [], alts := [], laidByText := true, laidKinds := [.data, .handle, .sentinel, .sentinel, .pinned], laidTests := true, laidLooks := .later }
def TokenPutsCardSaid : Prop := Claim7.holds Tryz.pinned (.plain (OpenSpec.ofChange tokenPutsSpec)) tokenPutsCard

/-- THE TIED CARD OF 'pleacherlaw05.TokenBack'. -/
def tokenBackCard : Claim7 := { stood := { row := tokenBackRow, standIns := [], harness := (true, "9b751ecd213dd1a368ee5106e74fed4086836cf3371db1b04b2d4b18bb24e921"), looks := true }, kinds := [], alts := [], laidByText := true, laidKinds := [.data, .handle, .sentinel, .sentinel, .pinned], laidTests := true, laidLooks := .later }
def TokenBackCardSaid : Prop := Claim7.holds Tryz.pinned (.plain (OpenSpec.ofChange tokenBackSpec)) tokenBackCard

/-- THE TIED CARD OF 'pleacherlaw05.TokenBlanks'. -/
def tokenBlanksCard : Claim7 := { stood := { row := tokenBlanksRow, standIns := [], harness := (true, "9b751ecd213dd1a368ee5106e74fed4086836cf3371db1b04b2d4b18bb24e921"), looks := true }, kinds := [], alts := [], laidByText := true, laidKinds := [.data, .handle, .sentinel, .sentinel, .pinned], laidTests := true, laidLooks := .later }
def TokenBlanksCardSaid : Prop := Claim7.holds Tryz.pinned (.plain (OpenSpec.ofChange tokenBlanksSpec)) tokenBlanksCard

/-- THE TIED CARD OF 'pleacherlaw05.TokenTurns'. -/
def tokenTurnsCard : Claim7 := { stood := { row := tokenTurnsRow, standIns := [], harness := (true, "9b751ecd213dd1a368ee5106e74fed4086836cf3371db1b04b2d4b18bb24e921"), looks := true }, kinds := [], alts := [], laidByText := true, laidKinds := [.data, .handle, .sentinel, .sentinel, .pinned], laidTests := true, laidLooks := .later }
def TokenTurnsCardSaid : Prop := Claim7.holds Tryz.pinned (.plain (OpenSpec.ofChange tokenTurnsSpec)) tokenTurnsCard

/-- THE TIED CARD OF 'pleacherlaw05.TokenParts'. -/
def tokenPartsCard : Claim7 := { stood := { row := tokenPartsRow, standIns := [], harness := (true, "9b751ecd213dd1a368ee5106e74fed4086836cf3371db1b04b2d4b18bb24e921"), looks := true }, kinds := [], alts := [], laidByText := true, laidKinds := [.data, .handle, .sentinel, .sentinel, .pinned], laidTests := true, laidLooks := .later }
def TokenPartsCardSaid : Prop := Claim7.holds Tryz.pinned (.plain (OpenSpec.ofChange tokenPartsSpec)) tokenPartsCard

/-- THE SECOND FORM's CARD OF 'pleacherlaw05.TokenPuts'. -/
def tokenPutsUptoCard : Claim7 := { stood := { row := tokenPutsUptoRow, standIns := [], harness := (true, "9b751ecd213dd1a368ee5106e74fed4086836cf3371db1b04b2d4b18bb24e921"), looks := true }, kinds := [], alts := [], laidByText := true, laidKinds := [.data, .handle, .sentinel, .sentinel, .pinned], laidTests := true, laidLooks := .later }
def TokenPutsUptoCardSaid : Prop := Claim7.holds Tryz.pinned (.plain (OpenSpec.upto tokenPutsSpec)) tokenPutsUptoCard

/-- THE SECOND FORM's CARD OF 'pleacherlaw05.TokenBack'. -/
def tokenBackUptoCard : Claim7 := { stood := { row := tokenBackUptoRow, standIns := [], harness := (true, "9b751ecd213dd1a368ee5106e74fed4086836cf3371db1b04b2d4b18bb24e921"), looks := true }, kinds := [], alts := [], laidByText := true, laidKinds := [.data, .handle, .sentinel, .sentinel, .pinned], laidTests := true, laidLooks := .later }
def TokenBackUptoCardSaid : Prop := Claim7.holds Tryz.pinned (.plain (OpenSpec.upto tokenBackSpec)) tokenBackUptoCard

/-- THE SECOND FORM's CARD OF 'pleacherlaw05.TokenBlanks'. -/
def tokenBlanksUptoCard : Claim7 := { stood := { row := tokenBlanksUptoRow, standIns := [], harness := (true, "9b751ecd213dd1a368ee5106e74fed4086836cf3371db1b04b2d4b18bb24e921"), looks := true }, kinds := [], alts := [], laidByText := true, laidKinds := [.data, .handle, .sentinel, .sentinel, .pinned], laidTests := true, laidLooks := .later }
def TokenBlanksUptoCardSaid : Prop := Claim7.holds Tryz.pinned (.plain (OpenSpec.upto tokenBlanksSpec)) tokenBlanksUptoCard

/-- THE SECOND FORM's CARD OF 'pleacherlaw05.TokenTurns'. -/
def tokenTurnsUptoCard : Claim7 := { stood := { row := tokenTurnsUptoRow, standIns := [], harness := (true, "9b751ecd213dd1a368ee5106e74fed4086836cf3371db1b04b2d4b18bb24e921"), looks := true }, kinds := [], alts := [], laidByText := true, laidKinds := [.data, .handle, .sentinel, .sentinel, .pinned], laidTests := true, laidLooks := .later }
def TokenTurnsUptoCardSaid : Prop := Claim7.holds Tryz.pinned (.plain (OpenSpec.upto tokenTurnsSpec)) tokenTurnsUptoCard

/-- THE SECOND FORM's CARD OF 'pleacherlaw05.TokenParts'. -/
def tokenPartsUptoCard : Claim7 := { stood := { row := tokenPartsUptoRow, standIns := [], harness := (true, "9b751ecd213dd1a368ee5106e74fed4086836cf3371db1b04b2d4b18bb24e921"), looks := true }, kinds := [], alts := [], laidByText := true, laidKinds := [.data, .handle, .sentinel, .sentinel, .pinned], laidTests := true, laidLooks := .later }
def TokenPartsUptoCardSaid : Prop := Claim7.holds Tryz.pinned (.plain (OpenSpec.upto tokenPartsSpec)) tokenPartsUptoCard
end Rows
end Go.Proofs.YtckfgkmfeklcmaaGreatDoor

/-
  DERIVED. GIVEN WITH THE SEED: THE CARDS: each row of YtikjckdoldiddaaGreatDoorRows.lean that lists a variable, with what it lists TIED to the program's text (the seventh form; the later family's looks); each row that meets fmt, with fmt's text TOLD by the authors' own Lean function (tested against real Go, not proved from fmt's source: count such statements apart). THE CARD IS WHAT COUNTS. Prove the row's statement (the work); the ties are given (YtikjckdoldiddaaGreatDoorTie.lean); close each card by the builder's one call (the guide's Derived/Test/ToyasCard.lean, 'card_holds'). Laid BY PROGRAM, IN A SANDBOX (cutbox-door.mjs). By AI agents, Wed Nov 11 2026. No macro, syntax, notation, axiom, sorry.
-/
import Derived.Test.YtikjckdoldiddaaGreatDoorRows
import GoSem.ClaimSeven
namespace Go.Proofs.YtikjckdoldiddaaGreatDoor
namespace Rows

/-- THE TIED CARD OF 'spandrellaw05.WalOn'. -/
def walOnCard : Claim7 := { stood := { row := walOnRow, standIns := [], harness := (true, "f735239ff727f169782dc0e58509213e9cad79e65ff65c4fb13849ff89a9268c"), looks := true }, kinds := [], alts := [], laidByText := true, laidKinds := [.data, .data, .data, .sentinel, .sentinel], laidTests := true, laidLooks := .later }
def WalOnCardSaid : Prop := Claim7.holds Tryz.pinned (.plain (OpenSpec.ofChange walOnSpec)) walOnCard

/-- THE TIED CARD OF 'spandrellaw05.WalRefused'. -/
def walRefusedCard : Claim7 := { stood := { row := walRefusedRow, standIns := [], harness := (true, "f735239ff727f169782dc0e58509213e9cad79e65ff65c4fb13849ff89a9268c"), looks := true }, kinds := [], alts := [], laidByText := true, laidKinds := [.data, .data, .data, .sentinel, .sentinel], laidTests := true, laidLooks := .later }
def WalRefusedCardSaid : Prop := Claim7.holds Tryz.pinned (.plain (OpenSpec.ofChange walRefusedSpec)) walRefusedCard

/-- THE TIED CARD OF 'spandrellaw05.WalRebased'. -/
def walRebasedCard : Claim7 := { stood := { row := walRebasedRow, standIns := [], harness := (true, "f735239ff727f169782dc0e58509213e9cad79e65ff65c4fb13849ff89a9268c"), looks := true }, kinds := [], alts := [], laidByText := true, laidKinds := [.data, .data, .data, .sentinel, .sentinel], laidTests := true, laidLooks := .later }
def WalRebasedCardSaid : Prop := Claim7.holds Tryz.pinned (.plain (OpenSpec.ofChange walRebasedSpec)) walRebasedCard

/-- THE TIED CARD OF 'spandrellaw05.WalCuts'. -/
def walCutsCard : Claim7 := { stood := { row := walCutsRow, standIns := [], harness := (true, "f735239ff727f169782dc0e58509213e9cad79e65ff65c4fb13849ff89a9268c"), looks := true }, kinds := [], alts := [], laidByText := true, laidKinds := [.data, .data, .data, .sentinel, .sentinel], laidTests := true, laidLooks := .later }
def WalCutsCardSaid : Prop := Claim7.holds Tryz.pinned (.plain (OpenSpec.ofChange walCutsSpec)) walCutsCard

/-- THE TIED CARD OF 'spandrellaw05.WalNobody'. -/
def walNobodyCard : Claim7 := { stood := { row := walNobodyRow, standIns := [], harness := (true, "f735239ff727f169782dc0e58509213e9cad79e65ff65c4fb13849ff89a9268c"), looks := true }, kinds := [], alts := [], laidByText := true, laidKinds := [.data, .data, .data, .sentinel, .sentinel], laidTests := true, laidLooks := .later }
def WalNobodyCardSaid : Prop := Claim7.holds Tryz.pinned (.plain (OpenSpec.ofChange walNobodySpec)) walNobodyCard

/-- THE TIED CARD OF 'spandrellaw05.WalAgain'. -/
def walAgainCard : Claim7 := { stood := { row := walAgainRow, standIns := [], harness := (true, "f735239ff727f169782dc0e58509213e9cad79e65ff65c4fb13849ff89a9268c"), looks := true }, kinds := [], alts := [], laidByText := true, laidKinds := [.data, .data, .data, .sentinel, .sentinel], laidTests := true, laidLooks := .later }
def WalAgainCardSaid : Prop := Claim7.holds Tryz.pinned (.plain (OpenSpec.ofChange walAgainSpec)) walAgainCard

/-- THE TIED CARD OF 'spandrellaw05.WalStruck'. -/
def walStruckCard : Claim7 := { stood := { row := walStruckRow, standIns := [], harness := (true, "f735239ff727f169782dc0e58509213e9cad79e65ff65c4fb13849ff89a9268c"), looks := true }, kinds := [], alts := [], laidByText := true, laidKinds := [.data, .data, .data, .sentinel, .sentinel], laidTests := true, laidLooks := .later }
def WalStruckCardSaid : Prop := Claim7.holds Tryz.pinned (.plain (OpenSpec.ofChange walStruckSpec)) walStruckCard

/-- THE TIED CARD OF 'spandrellaw05.WalStays'. -/
def walStaysCard : Claim7 := { stood := { row := walStaysRow, standIns := [], harness := (true, "f735239ff727f169782dc0e58509213e9cad79e65ff65c4fb13849ff89a9268c"), looks := true }, kinds := [], alts := [], laidByText := true, laidKinds := [.data, .data, .data, .sentinel, .sentinel], laidTests := true, laidLooks := .later }
def WalStaysCardSaid : Prop := Claim7.holds Tryz.pinned (.plain (OpenSpec.ofChange walStaysSpec)) walStaysCard

/-- THE TIED CARD OF 'spandrellaw05.WalPlays'. -/
def walPlaysCard : Claim7 := { stood := { row := walPlaysRow, standIns := [], harness := (true, "f735239ff727f169782dc0e58509213e9cad79e65ff65c4fb13849ff89a9268c"), looks := true }, kinds := [], alts := [], laidByText := true, laidKinds := [.data, .data, .data, .sentinel, .sentinel], laidTests := true, laidLooks := .later }
def WalPlaysCardSaid : Prop := Claim7.holds Tryz.pinned (.plain (OpenSpec.ofChange walPlaysSpec)) walPlaysCard

/-- THE SECOND FORM's CARD OF 'spandrellaw05.WalOn'. -/
def walOnUptoCard : Claim7 := { stood := { row := walOnUptoRow, standIns := [], harness := (true, "f735239ff727f169782dc0e58509213e9cad79e65ff65c4fb13849ff89a9268c"), looks := true }, kinds := [], alts := [], laidByText := true, laidKinds := [.data, .data, .data, .sentinel, .sentinel], laidTests := true, laidLooks := .later }
def WalOnUptoCardSaid : Prop := Claim7.holds Tryz.pinned (.plain (OpenSpec.upto walOnSpec)) walOnUptoCard

/-- THE SECOND FORM's CARD OF 'spandrellaw05.WalRefused'. -/
def walRefusedUptoCard : Claim7 := { stood := { row := walRefusedUptoRow, standIns := [], harness := (true, "f735239ff727f169782dc0e58509213e9cad79e65ff65c4fb13849ff89a9268c"), looks := true }, kinds := [], alts := [], laidByText := true, laidKinds := [.data, .data, .data, .sentinel, .sentinel], laidTests := true, laidLooks := .later }
def WalRefusedUptoCardSaid : Prop := Claim7.holds Tryz.pinned (.plain (OpenSpec.upto walRefusedSpec)) walRefusedUptoCard

/-- THE SECOND FORM's CARD OF 'spandrellaw05.WalRebased'. -/
def walRebasedUptoCard : Claim7 := { stood := { row := walRebasedUptoRow, standIns := [], harness := (true, "f735239ff727f169782dc0e58509213e9cad79e65ff65c4fb13849ff89a9268c"), looks := true }, kinds := [], alts := [], laidByText := true, laidKinds := [.data, .data, .data, .sentinel, .sentinel], laidTests := true, laidLooks := .later }
def WalRebasedUptoCardSaid : Prop := Claim7.holds Tryz.pinned (.plain (OpenSpec.upto walRebasedSpec)) walRebasedUptoCard

/-- THE SECOND FORM's CARD OF 'spandrellaw05.WalCuts'. -/
def walCutsUptoCard : Claim7 := { stood := { row := walCutsUptoRow, standIns := [], harness := (true, "f735239ff727f169782dc0e58509213e9cad79e65ff65c4fb13849ff89a9268c"), looks := true }, kinds := [], alts := [], laidByText := true, laidKinds := [.data, .data, .data, .sentinel, .sentinel], laidTests := true, laidLooks := .later }
def WalCutsUptoCardSaid : Prop := Claim7.holds Tryz.pinned (.plain (OpenSpec.upto walCutsSpec)) walCutsUptoCard

/-- THE SECOND FORM's CARD OF 'spandrellaw05.WalNobody'. -/
def walNobodyUptoCard : Claim7 := { stood := { row := walNobodyUptoRow, standIns := [], harness := (true, "f735239ff727f169782dc0e58509213e9cad79e65ff65c4fb13849ff89a9268c"), looks := true }, kinds := [], alts := [], laidByText := true, laidKinds := [.data, .data, .data, .sentinel, .sentinel], laidTests := true, laidLooks := .later }
def WalNobodyUptoCardSaid : Prop := Claim7.holds Tryz.pinned (.plain (OpenSpec.upto walNobodySpec)) walNobodyUptoCard

/-- THE SECOND FORM's CARD OF 'spandrellaw05.WalAgain'. -/
def walAgainUptoCard : Claim7 := { stood := { row := walAgainUptoRow, standIns := [], harness := (true, "f735239ff727f169782dc0e58509213e9cad79e65ff65c4fb13849ff89a9268c"), looks := true }, kinds := [], alts := [], laidByText := true, laidKinds := [.data, .data, .data, .sentinel, .sentinel], laidTests := true, laidLooks := .later }
def WalAgainUptoCardSaid : Prop := Claim7.holds Tryz.pinned (.plain (OpenSpec.upto walAgainSpec)) walAgainUptoCard

/-- THE SECOND FORM's CARD OF 'spandrellaw05.WalStruck'. -/
def walStruckUptoCard : Claim7 := { stood := { row := walStruckUptoRow, standIns := [], harness := (true, "f735239ff727f169782dc0e58509213e9cad79e65ff65c4fb13849ff89a9268c"), looks := true }, kinds := [], alts := [], laidByText := true, laidKinds := [.data, .data, .data, .sentinel, .sentinel], laidTests := true, laidLooks := .later }
def WalStruckUptoCardSaid : Prop := Claim7.holds Tryz.pinned (.plain (OpenSpec.upto walStruckSpec)) walStruckUptoCard

/-- THE SECOND FORM's CARD OF 'spandrellaw05.WalStays'. -/
def walStaysUptoCard : Claim7 := { stood := { row := walStaysUptoRow, standIns := [], harness := (true, "f735239ff727f169782dc0e58509213e9cad79e65ff65c4fb13849ff89a9268c"), looks := true }, kinds := [], alts := [], laidByText := true, laidKinds := [.data, .data, .data, .sentinel, .sentinel], laidTests := true, laidLooks := .later }
def WalStaysUptoCardSaid : Prop := Claim7.holds Tryz.pinned (.plain (OpenSpec.upto walStaysSpec)) walStaysUptoCard

/-- THE SECOND FORM's CARD OF 'spandrellaw05.WalPlays'. -/
def walPlaysUptoCard : Claim7 := { stood := { row := walPlaysUptoRow, standIns := [], harness := (true, "f735239ff727f169782dc0e58509213e9cad79e65ff65c4fb13849ff89a9268c"), looks := true }, kinds := [], alts := [], laidByText := true, laidKinds := [.data, .data, .data, .sentinel, .sentinel], laidTests := true, laidLooks := .later }
def WalPlaysUptoCardSaid : Prop := Claim7.holds Tryz.pinned (.plain (OpenSpec.upto walPlaysSpec)) walPlaysUptoCard
end Rows
end Go.Proofs.YtikjckdoldiddaaGreatDoor

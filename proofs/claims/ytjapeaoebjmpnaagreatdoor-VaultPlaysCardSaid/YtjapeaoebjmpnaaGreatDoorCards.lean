/-
  DERIVED. GIVEN WITH THE SEED: THE CARDS: each row of YtjapeaoebjmpnaaGreatDoorRows.lean that lists a variable, with what it lists TIED to the program's text (the seventh form; the later family's looks); each row that meets fmt, with fmt's text TOLD by the authors' own Lean function (tested against real Go, not proved from fmt's source: count such statements apart). THE CARD IS WHAT COUNTS. Prove the row's statement (the work); the ties are given (YtjapeaoebjmpnaaGreatDoorTie.lean); close each card by the builder's one call (the guide's Derived/Test/ToyasCard.lean, 'card_holds'). Laid BY PROGRAM, IN A SANDBOX (cutbox-door.mjs). By AI agents, Wed Nov 11 2026. No macro, syntax, notation, axiom, sorry.
-/
import Derived.Test.YtjapeaoebjmpnaaGreatDoorRows
import GoSem.ClaimSeven
namespace Go.Proofs.YtjapeaoebjmpnaaGreatDoor
namespace Rows

/-- THE TIED CARD OF 'spandrellaw06.VaultChecks'. -/
def vaultChecksCard : Claim7 := { stood := { row := vaultChecksRow, standIns := [], harness := (true, "bf2e175b462e5a4cdf25993f64ffa7b3b2baf7dcf1f5888b7cc62c47ec746851"), looks := false }, kinds := [], alts := [], laidByText := true, laidKinds := [.data, .data, .data], laidTests := true, laidLooks := .later }
def VaultChecksCardSaid : Prop := Claim7.holds Tryz.pinned (.plain (OpenSpec.ofChange vaultChecksSpec)) vaultChecksCard

/-- THE TIED CARD OF 'spandrellaw06.VaultNewer'. -/
def vaultNewerCard : Claim7 := { stood := { row := vaultNewerRow, standIns := [], harness := (true, "bf2e175b462e5a4cdf25993f64ffa7b3b2baf7dcf1f5888b7cc62c47ec746851"), looks := false }, kinds := [], alts := [], laidByText := true, laidKinds := [.data, .data, .data], laidTests := true, laidLooks := .later }
def VaultNewerCardSaid : Prop := Claim7.holds Tryz.pinned (.plain (OpenSpec.ofChange vaultNewerSpec)) vaultNewerCard

/-- THE TIED CARD OF 'spandrellaw06.VaultWhole'. -/
def vaultWholeCard : Claim7 := { stood := { row := vaultWholeRow, standIns := [], harness := (true, "bf2e175b462e5a4cdf25993f64ffa7b3b2baf7dcf1f5888b7cc62c47ec746851"), looks := false }, kinds := [], alts := [], laidByText := true, laidKinds := [.data, .data, .data], laidTests := true, laidLooks := .later }
def VaultWholeCardSaid : Prop := Claim7.holds Tryz.pinned (.plain (OpenSpec.ofChange vaultWholeSpec)) vaultWholeCard

/-- THE TIED CARD OF 'spandrellaw06.VaultOpens'. -/
def vaultOpensCard : Claim7 := { stood := { row := vaultOpensRow, standIns := [], harness := (true, "bf2e175b462e5a4cdf25993f64ffa7b3b2baf7dcf1f5888b7cc62c47ec746851"), looks := false }, kinds := [], alts := [], laidByText := true, laidKinds := [.data, .data, .data], laidTests := true, laidLooks := .later }
def VaultOpensCardSaid : Prop := Claim7.holds Tryz.pinned (.plain (OpenSpec.ofChange vaultOpensSpec)) vaultOpensCard

/-- THE TIED CARD OF 'spandrellaw06.VaultPlays'. -/
def vaultPlaysCard : Claim7 := { stood := { row := vaultPlaysRow, standIns := [], harness := (true, "bf2e175b462e5a4cdf25993f64ffa7b3b2baf7dcf1f5888b7cc62c47ec746851"), looks := false }, kinds := [], alts := [], laidByText := true, laidKinds := [.data, .data, .data], laidTests := true, laidLooks := .later }
def VaultPlaysCardSaid : Prop := Claim7.holds Tryz.pinned (.plain (OpenSpec.ofChange vaultPlaysSpec)) vaultPlaysCard

/-- THE TIED CARD OF 'spandrellaw06.VaultNobody'. -/
def vaultNobodyCard : Claim7 := { stood := { row := vaultNobodyRow, standIns := [], harness := (true, "bf2e175b462e5a4cdf25993f64ffa7b3b2baf7dcf1f5888b7cc62c47ec746851"), looks := false }, kinds := [], alts := [], laidByText := true, laidKinds := [.data, .data, .data], laidTests := true, laidLooks := .later }
def VaultNobodyCardSaid : Prop := Claim7.holds Tryz.pinned (.plain (OpenSpec.ofChange vaultNobodySpec)) vaultNobodyCard

/-- THE TIED CARD OF 'spandrellaw06.VaultOver'. -/
def vaultOverCard : Claim7 := { stood := { row := vaultOverRow, standIns := [], harness := (true, "bf2e175b462e5a4cdf25993f64ffa7b3b2baf7dcf1f5888b7cc62c47ec746851"), looks := false }, kinds := [], alts := [], laidByText := true, laidKinds := [.data, .data, .data], laidTests := true, laidLooks := .later }
def VaultOverCardSaid : Prop := Claim7.holds Tryz.pinned (.plain (OpenSpec.ofChange vaultOverSpec)) vaultOverCard

/-- THE TIED CARD OF 'spandrellaw06.VaultTakes'. -/
def vaultTakesCard : Claim7 := { stood := { row := vaultTakesRow, standIns := [], harness := (true, "bf2e175b462e5a4cdf25993f64ffa7b3b2baf7dcf1f5888b7cc62c47ec746851"), looks := false }, kinds := [], alts := [], laidByText := true, laidKinds := [.data, .data, .data], laidTests := true, laidLooks := .later }
def VaultTakesCardSaid : Prop := Claim7.holds Tryz.pinned (.plain (OpenSpec.ofChange vaultTakesSpec)) vaultTakesCard

/-- THE SECOND FORM's CARD OF 'spandrellaw06.VaultChecks'. -/
def vaultChecksUptoCard : Claim7 := { stood := { row := vaultChecksUptoRow, standIns := [], harness := (true, "bf2e175b462e5a4cdf25993f64ffa7b3b2baf7dcf1f5888b7cc62c47ec746851"), looks := false }, kinds := [], alts := [], laidByText := true, laidKinds := [.data, .data, .data], laidTests := true, laidLooks := .later }
def VaultChecksUptoCardSaid : Prop := Claim7.holds Tryz.pinned (.plain (OpenSpec.upto vaultChecksSpec)) vaultChecksUptoCard

/-- THE SECOND FORM's CARD OF 'spandrellaw06.VaultNewer'. -/
def vaultNewerUptoCard : Claim7 := { stood := { row := vaultNewerUptoRow, standIns := [], harness := (true, "bf2e175b462e5a4cdf25993f64ffa7b3b2baf7dcf1f5888b7cc62c47ec746851"), looks := false }, kinds := [], alts := [], laidByText := true, laidKinds := [.data, .data, .data], laidTests := true, laidLooks := .later }
def VaultNewerUptoCardSaid : Prop := Claim7.holds Tryz.pinned (.plain (OpenSpec.upto vaultNewerSpec)) vaultNewerUptoCard

/-- THE SECOND FORM's CARD OF 'spandrellaw06.VaultWhole'. -/
def vaultWholeUptoCard : Claim7 := { stood := { row := vaultWholeUptoRow, standIns := [], harness := (true, "bf2e175b462e5a4cdf25993f64ffa7b3b2baf7dcf1f5888b7cc62c47ec746851"), looks := false }, kinds := [], alts := [], laidByText := true, laidKinds := [.data, .data, .data], laidTests := true, laidLooks := .later }
def VaultWholeUptoCardSaid : Prop := Claim7.holds Tryz.pinned (.plain (OpenSpec.upto vaultWholeSpec)) vaultWholeUptoCard

/-- THE SECOND FORM's CARD OF 'spandrellaw06.VaultOpens'. -/
def vaultOpensUptoCard : Claim7 := { stood := { row := vaultOpensUptoRow, standIns := [], harness := (true, "bf2e175b462e5a4cdf25993f64ffa7b3b2baf7dcf1f5888b7cc62c47ec746851"), looks := false }, kinds := [], alts := [], laidByText := true, laidKinds := [.data, .data, .data], laidTests := true, laidLooks := .later }
def VaultOpensUptoCardSaid : Prop := Claim7.holds Tryz.pinned (.plain (OpenSpec.upto vaultOpensSpec)) vaultOpensUptoCard

/-- THE SECOND FORM's CARD OF 'spandrellaw06.VaultPlays'. -/
def vaultPlaysUptoCard : Claim7 := { stood := { row := vaultPlaysUptoRow, standIns := [], harness := (true, "bf2e175b462e5a4cdf25993f64ffa7b3b2baf7dcf1f5888b7cc62c47ec746851"), looks := false }, kinds := [], alts := [], laidByText := true, laidKinds := [.data, .data, .data], laidTests := true, laidLooks := .later }
def VaultPlaysUptoCardSaid : Prop := Claim7.holds Tryz.pinned (.plain (OpenSpec.upto vaultPlaysSpec)) vaultPlaysUptoCard

/-- THE SECOND FORM's CARD OF 'spandrellaw06.VaultNobody'. -/
def vaultNobodyUptoCard : Claim7 := { stood := { row := vaultNobodyUptoRow, standIns := [], harness := (true, "bf2e175b462e5a4cdf25993f64ffa7b3b2baf7dcf1f5888b7cc62c47ec746851"), looks := false }, kinds := [], alts := [], laidByText := true, laidKinds := [.data, .data, .data], laidTests := true, laidLooks := .later }
def VaultNobodyUptoCardSaid : Prop := Claim7.holds Tryz.pinned (.plain (OpenSpec.upto vaultNobodySpec)) vaultNobodyUptoCard

/-- THE SECOND FORM's CARD OF 'spandrellaw06.VaultOver'. -/
def vaultOverUptoCard : Claim7 := { stood := { row := vaultOverUptoRow, standIns := [], harness := (true, "bf2e175b462e5a4cdf25993f64ffa7b3b2baf7dcf1f5888b7cc62c47ec746851"), looks := false }, kinds := [], alts := [], laidByText := true, laidKinds := [.data, .data, .data], laidTests := true, laidLooks := .later }
def VaultOverUptoCardSaid : Prop := Claim7.holds Tryz.pinned (.plain (OpenSpec.upto vaultOverSpec)) vaultOverUptoCard

/-- THE SECOND FORM's CARD OF 'spandrellaw06.VaultTakes'. -/
def vaultTakesUptoCard : Claim7 := { stood := { row := vaultTakesUptoRow, standIns := [], harness := (true, "bf2e175b462e5a4cdf25993f64ffa7b3b2baf7dcf1f5888b7cc62c47ec746851"), looks := false }, kinds := [], alts := [], laidByText := true, laidKinds := [.data, .data, .data], laidTests := true, laidLooks := .later }
def VaultTakesUptoCardSaid : Prop := Claim7.holds Tryz.pinned (.plain (OpenSpec.upto vaultTakesSpec)) vaultTakesUptoCard
end Rows
end Go.Proofs.YtjapeaoebjmpnaaGreatDoor

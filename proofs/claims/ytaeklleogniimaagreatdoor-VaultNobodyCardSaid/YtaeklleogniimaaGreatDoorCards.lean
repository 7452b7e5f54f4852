/-
  DERIVED. GIVEN WITH THE SEED: THE CARDS: each row of YtaeklleogniimaaGreatDoorRows.lean that lists a variable, with what it lists TIED to the program's text (the seventh form; the later family's looks); each row that meets fmt, with fmt's text TOLD by the authors' own Lean function (tested against real Go, not proved from fmt's source: count such statements apart). THE CARD IS WHAT COUNTS. Prove the row's statement (the work); the ties are given (YtaeklleogniimaaGreatDoorTie.lean); close each card by the builder's one call (the guide's Derived/Test/ToyasCard.lean, 'card_holds'). Laid BY PROGRAM, IN A SANDBOX (cutbox-door.mjs). By AI agents, Wed Nov 11 2026. No macro, syntax, notation, axiom, sorry.
-/
import Derived.Test.YtaeklleogniimaaGreatDoorRows
import GoSem.ClaimSeven
namespace Go.Proofs.YtaeklleogniimaaGreatDoor
namespace Rows

/-- THE TIED CARD OF 'barquelaw18.VaultNobody'. -/
def vaultNobodyCard : Claim7 := { stood := { row := vaultNobodyRow, standIns := [], harness := (true, "d338cfde50d6b9975df722c8f1ca40b6a3c399d1c5c410aebfee2c98cf9dc590"), looks := true }, kinds := [], alts := [], laidByText := true, laidKinds := [.data, .pinned], laidTests := true, laidLooks := .later }
def VaultNobodyCardSaid : Prop := Claim7.holds Tryz.pinned (.plain (OpenSpec.ofChange vaultNobodySpec)) vaultNobodyCard

/-- THE TIED CARD OF 'barquelaw18.VaultNarrow'. -/
def vaultNarrowCard : Claim7 := { stood := { row := vaultNarrowRow, standIns := [], harness := (true, "d338cfde50d6b9975df722c8f1ca40b6a3c399d1c5c410aebfee2c98cf9dc590"), looks := true }, kinds := [], alts := [], laidByText := true, laidKinds := [.data, .pinned], laidTests := true, laidLooks := .later }
def VaultNarrowCardSaid : Prop := Claim7.holds Tryz.pinned (.plain (OpenSpec.ofChange vaultNarrowSpec)) vaultNarrowCard

/-- THE TIED CARD OF 'barquelaw18.VaultPlays'. -/
def vaultPlaysCard : Claim7 := { stood := { row := vaultPlaysRow, standIns := [], harness := (true, "d338cfde50d6b9975df722c8f1ca40b6a3c399d1c5c410aebfee2c98cf9dc590"), looks := true }, kinds := [], alts := [], laidByText := true, laidKinds := [.data, .pinned], laidTests := true, laidLooks := .later }
def VaultPlaysCardSaid : Prop := Claim7.holds Tryz.pinned (.plain (OpenSpec.ofChange vaultPlaysSpec)) vaultPlaysCard

/-- THE TIED CARD OF 'barquelaw18.VaultRises'. -/
def vaultRisesCard : Claim7 := { stood := { row := vaultRisesRow, standIns := [], harness := (true, "d338cfde50d6b9975df722c8f1ca40b6a3c399d1c5c410aebfee2c98cf9dc590"), looks := true }, kinds := [], alts := [], laidByText := true, laidKinds := [.data, .pinned], laidTests := true, laidLooks := .later }
def VaultRisesCardSaid : Prop := Claim7.holds Tryz.pinned (.plain (OpenSpec.ofChange vaultRisesSpec)) vaultRisesCard

/-- THE TIED CARD OF 'barquelaw18.VaultStale'. -/
def vaultStaleCard : Claim7 := { stood := { row := vaultStaleRow, standIns := [], harness := (true, "d338cfde50d6b9975df722c8f1ca40b6a3c399d1c5c410aebfee2c98cf9dc590"), looks := true }, kinds := [], alts := [], laidByText := true, laidKinds := [.data, .pinned], laidTests := true, laidLooks := .later }
def VaultStaleCardSaid : Prop := Claim7.holds Tryz.pinned (.plain (OpenSpec.ofChange vaultStaleSpec)) vaultStaleCard

/-- THE TIED CARD OF 'barquelaw18.VaultSpoilt'. -/
def vaultSpoiltCard : Claim7 := { stood := { row := vaultSpoiltRow, standIns := [], harness := (true, "d338cfde50d6b9975df722c8f1ca40b6a3c399d1c5c410aebfee2c98cf9dc590"), looks := true }, kinds := [], alts := [], laidByText := true, laidKinds := [.data, .pinned], laidTests := true, laidLooks := .later }
def VaultSpoiltCardSaid : Prop := Claim7.holds Tryz.pinned (.plain (OpenSpec.ofChange vaultSpoiltSpec)) vaultSpoiltCard

/-- THE SECOND FORM's CARD OF 'barquelaw18.VaultNobody'. -/
def vaultNobodyUptoCard : Claim7 := { stood := { row := vaultNobodyUptoRow, standIns := [], harness := (true, "d338cfde50d6b9975df722c8f1ca40b6a3c399d1c5c410aebfee2c98cf9dc590"), looks := true }, kinds := [], alts := [], laidByText := true, laidKinds := [.data, .pinned], laidTests := true, laidLooks := .later }
def VaultNobodyUptoCardSaid : Prop := Claim7.holds Tryz.pinned (.plain (OpenSpec.upto vaultNobodySpec)) vaultNobodyUptoCard

/-- THE SECOND FORM's CARD OF 'barquelaw18.VaultNarrow'. -/
def vaultNarrowUptoCard : Claim7 := { stood := { row := vaultNarrowUptoRow, standIns := [], harness := (true, "d338cfde50d6b9975df722c8f1ca40b6a3c399d1c5c410aebfee2c98cf9dc590"), looks := true }, kinds := [], alts := [], laidByText := true, laidKinds := [.data, .pinned], laidTests := true, laidLooks := .later }
def VaultNarrowUptoCardSaid : Prop := Claim7.holds Tryz.pinned (.plain (OpenSpec.upto vaultNarrowSpec)) vaultNarrowUptoCard

/-- THE SECOND FORM's CARD OF 'barquelaw18.VaultPlays'. -/
def vaultPlaysUptoCard : Claim7 := { stood := { row := vaultPlaysUptoRow, standIns := [], harness := (true, "d338cfde50d6b9975df722c8f1ca40b6a3c399d1c5c410aebfee2c98cf9dc590"), looks := true }, kinds := [], alts := [], laidByText := true, laidKinds := [.data, .pinned], laidTests := true, laidLooks := .later }
def VaultPlaysUptoCardSaid : Prop := Claim7.holds Tryz.pinned (.plain (OpenSpec.upto vaultPlaysSpec)) vaultPlaysUptoCard

/-- THE SECOND FORM's CARD OF 'barquelaw18.VaultRises'. -/
def vaultRisesUptoCard : Claim7 := { stood := { row := vaultRisesUptoRow, standIns := [], harness := (true, "d338cfde50d6b9975df722c8f1ca40b6a3c399d1c5c410aebfee2c98cf9dc590"), looks := true }, kinds := [], alts := [], laidByText := true, laidKinds := [.data, .pinned], laidTests := true, laidLooks := .later }
def VaultRisesUptoCardSaid : Prop := Claim7.holds Tryz.pinned (.plain (OpenSpec.upto vaultRisesSpec)) vaultRisesUptoCard

/-- THE SECOND FORM's CARD OF 'barquelaw18.VaultStale'. -/
def vaultStaleUptoCard : Claim7 := { stood := { row := vaultStaleUptoRow, standIns := [], harness := (true, "d338cfde50d6b9975df722c8f1ca40b6a3c399d1c5c410aebfee2c98cf9dc590"), looks := true }, kinds := [], alts := [], laidByText := true, laidKinds := [.data, .pinned], laidTests := true, laidLooks := .later }
def VaultStaleUptoCardSaid : Prop := Claim7.holds Tryz.pinned (.plain (OpenSpec.upto vaultStaleSpec)) vaultStaleUptoCard

/-- THE SECOND FORM's CARD OF 'barquelaw18.VaultSpoilt'. -/
def vaultSpoiltUptoCard : Claim7 := { stood := { row := vaultSpoiltUptoRow, standIns := [], harness := (true, "d338cfde50d6b9975df722c8f1ca40b6a3c399d1c5c410aebfee2c98cf9dc590"), looks := true }, kinds := [], alts := [], laidByText := true, laidKinds := [.data, .pinned], laidTests := true, laidLooks := .later }
def VaultSpoiltUptoCardSaid : Prop := Claim7.holds Tryz.pinned (.plain (OpenSpec.upto vaultSpoiltSpec)) vaultSpoiltUptoCard
end Rows
end Go.Proofs.YtaeklleogniimaaGreatDoor

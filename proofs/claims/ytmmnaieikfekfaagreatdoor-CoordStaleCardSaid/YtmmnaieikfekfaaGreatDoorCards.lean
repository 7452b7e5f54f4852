/-
  DERIVED. GIVEN WITH THE SEED: THE CARDS: each row of YtmmnaieikfekfaaGreatDoorRows.lean that lists a variable, with what it lists TIED to the program's text (the seventh form; the later family's looks); each row that meets fmt, with fmt's text TOLD by the authors' own Lean function (tested against real Go, not proved from fmt's source: count such statements apart). THE CARD IS WHAT COUNTS. Prove the row's statement (the work); the ties are given (YtmmnaieikfekfaaGreatDoorTie.lean); close each card by the builder's one call (the guide's Derived/Test/ToyasCard.lean, 'card_holds'). Laid BY PROGRAM, IN A SANDBOX (cutbox-door.mjs). By AI agents, Wed Nov 11 2026. No macro, syntax, notation, axiom, sorry.
-/
import Derived.Test.YtmmnaieikfekfaaGreatDoorRows
import GoSem.ClaimSeven
namespace Go.Proofs.YtmmnaieikfekfaaGreatDoor
namespace Rows

/-- THE TIED CARD OF 'barquelaw20.CoordNews'. -/
def coordNewsCard : Claim7 := { stood := { row := coordNewsRow, standIns := [], harness := (true, "f7a1a5ceae339fd60158cb53d7bbe2fb342728020dfe5e9c04de45b7a76b7c23"), looks := false }, kinds := [], alts := [], laidByText := true, laidKinds := [.data, .pinned], laidTests := true, laidLooks := .later }
def CoordNewsCardSaid : Prop := Claim7.holds Tryz.pinned (.plain (OpenSpec.ofChange coordNewsSpec)) coordNewsCard

/-- THE TIED CARD OF 'barquelaw20.CoordAsks'. -/
def coordAsksCard : Claim7 := { stood := { row := coordAsksRow, standIns := [], harness := (true, "f7a1a5ceae339fd60158cb53d7bbe2fb342728020dfe5e9c04de45b7a76b7c23"), looks := false }, kinds := [], alts := [], laidByText := true, laidKinds := [.data, .pinned], laidTests := true, laidLooks := .later }
def CoordAsksCardSaid : Prop := Claim7.holds Tryz.pinned (.plain (OpenSpec.ofChange coordAsksSpec)) coordAsksCard

/-- THE TIED CARD OF 'barquelaw20.CoordPatience'. -/
def coordPatienceCard : Claim7 := { stood := { row := coordPatienceRow, standIns := [], harness := (true, "f7a1a5ceae339fd60158cb53d7bbe2fb342728020dfe5e9c04de45b7a76b7c23"), looks := false }, kinds := [], alts := [], laidByText := true, laidKinds := [.data, .pinned], laidTests := true, laidLooks := .later }
def CoordPatienceCardSaid : Prop := Claim7.holds Tryz.pinned (.plain (OpenSpec.ofChange coordPatienceSpec)) coordPatienceCard

/-- THE TIED CARD OF 'barquelaw20.CoordPrepares'. -/
def coordPreparesCard : Claim7 := { stood := { row := coordPreparesRow, standIns := [], harness := (true, "f7a1a5ceae339fd60158cb53d7bbe2fb342728020dfe5e9c04de45b7a76b7c23"), looks := false }, kinds := [], alts := [], laidByText := true, laidKinds := [.data, .pinned], laidTests := true, laidLooks := .later }
def CoordPreparesCardSaid : Prop := Claim7.holds Tryz.pinned (.plain (OpenSpec.ofChange coordPreparesSpec)) coordPreparesCard

/-- THE TIED CARD OF 'barquelaw20.CoordBacked'. -/
def coordBackedCard : Claim7 := { stood := { row := coordBackedRow, standIns := [], harness := (true, "f7a1a5ceae339fd60158cb53d7bbe2fb342728020dfe5e9c04de45b7a76b7c23"), looks := false }, kinds := [], alts := [], laidByText := true, laidKinds := [.data, .pinned], laidTests := true, laidLooks := .later }
def CoordBackedCardSaid : Prop := Claim7.holds Tryz.pinned (.plain (OpenSpec.ofChange coordBackedSpec)) coordBackedCard

/-- THE TIED CARD OF 'barquelaw20.CoordConfirmed'. -/
def coordConfirmedCard : Claim7 := { stood := { row := coordConfirmedRow, standIns := [], harness := (true, "f7a1a5ceae339fd60158cb53d7bbe2fb342728020dfe5e9c04de45b7a76b7c23"), looks := false }, kinds := [], alts := [], laidByText := true, laidKinds := [.data, .pinned], laidTests := true, laidLooks := .later }
def CoordConfirmedCardSaid : Prop := Claim7.holds Tryz.pinned (.plain (OpenSpec.ofChange coordConfirmedSpec)) coordConfirmedCard

/-- THE TIED CARD OF 'barquelaw20.CoordServes'. -/
def coordServesCard : Claim7 := { stood := { row := coordServesRow, standIns := [], harness := (true, "f7a1a5ceae339fd60158cb53d7bbe2fb342728020dfe5e9c04de45b7a76b7c23"), looks := false }, kinds := [], alts := [], laidByText := true, laidKinds := [.data, .pinned], laidTests := true, laidLooks := .later }
def CoordServesCardSaid : Prop := Claim7.holds Tryz.pinned (.plain (OpenSpec.ofChange coordServesSpec)) coordServesCard

/-- THE TIED CARD OF 'barquelaw20.CoordStale'. -/
def coordStaleCard : Claim7 := { stood := { row := coordStaleRow, standIns := [], harness := (true, "f7a1a5ceae339fd60158cb53d7bbe2fb342728020dfe5e9c04de45b7a76b7c23"), looks := false }, kinds := [], alts := [], laidByText := true, laidKinds := [.data, .pinned], laidTests := true, laidLooks := .later }
def CoordStaleCardSaid : Prop := Claim7.holds Tryz.pinned (.plain (OpenSpec.ofChange coordStaleSpec)) coordStaleCard

/-- THE TIED CARD OF 'barquelaw20.CoordNobody'. -/
def coordNobodyCard : Claim7 := { stood := { row := coordNobodyRow, standIns := [], harness := (true, "f7a1a5ceae339fd60158cb53d7bbe2fb342728020dfe5e9c04de45b7a76b7c23"), looks := false }, kinds := [], alts := [], laidByText := true, laidKinds := [.data, .pinned], laidTests := true, laidLooks := .later }
def CoordNobodyCardSaid : Prop := Claim7.holds Tryz.pinned (.plain (OpenSpec.ofChange coordNobodySpec)) coordNobodyCard

/-- THE SECOND FORM's CARD OF 'barquelaw20.CoordNews'. -/
def coordNewsUptoCard : Claim7 := { stood := { row := coordNewsUptoRow, standIns := [], harness := (true, "f7a1a5ceae339fd60158cb53d7bbe2fb342728020dfe5e9c04de45b7a76b7c23"), looks := false }, kinds := [], alts := [], laidByText := true, laidKinds := [.data, .pinned], laidTests := true, laidLooks := .later }
def CoordNewsUptoCardSaid : Prop := Claim7.holds Tryz.pinned (.plain (OpenSpec.upto coordNewsSpec)) coordNewsUptoCard

/-- THE SECOND FORM's CARD OF 'barquelaw20.CoordAsks'. -/
def coordAsksUptoCard : Claim7 := { stood := { row := coordAsksUptoRow, standIns := [], harness := (true, "f7a1a5ceae339fd60158cb53d7bbe2fb342728020dfe5e9c04de45b7a76b7c23"), looks := false }, kinds := [], alts := [], laidByText := true, laidKinds := [.data, .pinned], laidTests := true, laidLooks := .later }
def CoordAsksUptoCardSaid : Prop := Claim7.holds Tryz.pinned (.plain (OpenSpec.upto coordAsksSpec)) coordAsksUptoCard

/-- THE SECOND FORM's CARD OF 'barquelaw20.CoordPatience'. -/
def coordPatienceUptoCard : Claim7 := { stood := { row := coordPatienceUptoRow, standIns := [], harness := (true, "f7a1a5ceae339fd60158cb53d7bbe2fb342728020dfe5e9c04de45b7a76b7c23"), looks := false }, kinds := [], alts := [], laidByText := true, laidKinds := [.data, .pinned], laidTests := true, laidLooks := .later }
def CoordPatienceUptoCardSaid : Prop := Claim7.holds Tryz.pinned (.plain (OpenSpec.upto coordPatienceSpec)) coordPatienceUptoCard

/-- THE SECOND FORM's CARD OF 'barquelaw20.CoordPrepares'. -/
def coordPreparesUptoCard : Claim7 := { stood := { row := coordPreparesUptoRow, standIns := [], harness := (true, "f7a1a5ceae339fd60158cb53d7bbe2fb342728020dfe5e9c04de45b7a76b7c23"), looks := false }, kinds := [], alts := [], laidByText := true, laidKinds := [.data, .pinned], laidTests := true, laidLooks := .later }
def CoordPreparesUptoCardSaid : Prop := Claim7.holds Tryz.pinned (.plain (OpenSpec.upto coordPreparesSpec)) coordPreparesUptoCard

/-- THE SECOND FORM's CARD OF 'barquelaw20.CoordBacked'. -/
def coordBackedUptoCard : Claim7 := { stood := { row := coordBackedUptoRow, standIns := [], harness := (true, "f7a1a5ceae339fd60158cb53d7bbe2fb342728020dfe5e9c04de45b7a76b7c23"), looks := false }, kinds := [], alts := [], laidByText := true, laidKinds := [.data, .pinned], laidTests := true, laidLooks := .later }
def CoordBackedUptoCardSaid : Prop := Claim7.holds Tryz.pinned (.plain (OpenSpec.upto coordBackedSpec)) coordBackedUptoCard

/-- THE SECOND FORM's CARD OF 'barquelaw20.CoordConfirmed'. -/
def coordConfirmedUptoCard : Claim7 := { stood := { row := coordConfirmedUptoRow, standIns := [], harness := (true, "f7a1a5ceae339fd60158cb53d7bbe2fb342728020dfe5e9c04de45b7a76b7c23"), looks := false }, kinds := [], alts := [], laidByText := true, laidKinds := [.data, .pinned], laidTests := true, laidLooks := .later }
def CoordConfirmedUptoCardSaid : Prop := Claim7.holds Tryz.pinned (.plain (OpenSpec.upto coordConfirmedSpec)) coordConfirmedUptoCard

/-- THE SECOND FORM's CARD OF 'barquelaw20.CoordServes'. -/
def coordServesUptoCard : Claim7 := { stood := { row := coordServesUptoRow, standIns := [], harness := (true, "f7a1a5ceae339fd60158cb53d7bbe2fb342728020dfe5e9c04de45b7a76b7c23"), looks := false }, kinds := [], alts := [], laidByText := true, laidKinds := [.data, .pinned], laidTests := true, laidLooks := .later }
def CoordServesUptoCardSaid : Prop := Claim7.holds Tryz.pinned (.plain (OpenSpec.upto coordServesSpec)) coordServesUptoCard

/-- THE SECOND FORM's CARD OF 'barquelaw20.CoordStale'. -/
def coordStaleUptoCard : Claim7 := { stood := { row := coordStaleUptoRow, standIns := [], harness := (true, "f7a1a5ceae339fd60158cb53d7bbe2fb342728020dfe5e9c04de45b7a76b7c23"), looks := false }, kinds := [], alts := [], laidByText := true, laidKinds := [.data, .pinned], laidTests := true, laidLooks := .later }
def CoordStaleUptoCardSaid : Prop := Claim7.holds Tryz.pinned (.plain (OpenSpec.upto coordStaleSpec)) coordStaleUptoCard

/-- THE SECOND FORM's CARD OF 'barquelaw20.CoordNobody'. -/
def coordNobodyUptoCard : Claim7 := { stood := { row := coordNobodyUptoRow, standIns := [], harness := (true, "f7a1a5ceae339fd60158cb53d7bbe2fb342728020dfe5e9c04de45b7a76b7c23"), looks := false }, kinds := [], alts := [], laidByText := true, laidKinds := [.data, .pinned], laidTests := true, laidLooks := .later }
def CoordNobodyUptoCardSaid : Prop := Claim7.holds Tryz.pinned (.plain (OpenSpec.upto coordNobodySpec)) coordNobodyUptoCard
end Rows
end Go.Proofs.YtmmnaieikfekfaaGreatDoor

/-
  DERIVED. GIVEN WITH THE SEED: THE CARDS: each row of YtaemlplcjjbamaaGreatDoorRows.lean that lists a variable, with what it lists TIED to the program's text (the seventh form; the later family's looks); each row that meets fmt, with fmt's text TOLD by the authors' own Lean function (tested against real Go, not proved from fmt's source: count such statements apart). THE CARD IS WHAT COUNTS. Prove the row's statement (the work); the ties are given (YtaemlplcjjbamaaGreatDoorTie.lean); close each card by the builder's one call (the guide's Derived/Test/ToyasCard.lean, 'card_holds'). Laid BY PROGRAM, IN A SANDBOX (cutbox-door.mjs). By AI agents, Wed Nov 11 2026. No macro, syntax, notation, axiom, sorry.
-/
import Derived.Test.YtaemlplcjjbamaaGreatDoorRows
import GoSem.ClaimSeven
namespace Go.Proofs.YtaemlplcjjbamaaGreatDoor
namespace Rows

/-- THE TIED CARD OF 'barquelaw20.CoordBacked'. -/
def coordBackedCard : Claim7 := { stood := { row := coordBackedRow, standIns := [], harness := (true, "46a009754f2b8cbf77f804bd41b861b4385bdec851d0d59236847740ded01bbc"), looks := false }, kinds := [], alts := [], laidByText := true, laidKinds := [.data, .pinned], laidTests := true, laidLooks := .later }
def CoordBackedCardSaid : Prop := Claim7.holds Tryz.pinned (.plain (OpenSpec.ofChange coordBackedSpec)) coordBackedCard

/-- THE TIED CARD OF 'barquelaw20.CoordConfirmed'. -/
def coordConfirmedCard : Claim7 := { stood := { row := coordConfirmedRow, standIns := [], harness := (true, "46a009754f2b8cbf77f804bd41b861b4385bdec851d0d59236847740ded01bbc"), looks := false }, kinds := [], alts := [], laidByText := true, laidKinds := [.data, .pinned], laidTests := true, laidLooks := .later }
def CoordConfirmedCardSaid : Prop := Claim7.holds Tryz.pinned (.plain (OpenSpec.ofChange coordConfirmedSpec)) coordConfirmedCard

/-- THE TIED CARD OF 'barquelaw20.CoordServes'. -/
def coordServesCard : Claim7 := { stood := { row := coordServesRow, standIns := [], harness := (true, "46a009754f2b8cbf77f804bd41b861b4385bdec851d0d59236847740ded01bbc"), looks := false }, kinds := [], alts := [], laidByText := true, laidKinds := [.data, .pinned], laidTests := true, laidLooks := .later }
def CoordServesCardSaid : Prop := Claim7.holds Tryz.pinned (.plain (OpenSpec.ofChange coordServesSpec)) coordServesCard

/-- THE SECOND FORM's CARD OF 'barquelaw20.CoordBacked'. -/
def coordBackedUptoCard : Claim7 := { stood := { row := coordBackedUptoRow, standIns := [], harness := (true, "46a009754f2b8cbf77f804bd41b861b4385bdec851d0d59236847740ded01bbc"), looks := false }, kinds := [], alts := [], laidByText := true, laidKinds := [.data, .pinned], laidTests := true, laidLooks := .later }
def CoordBackedUptoCardSaid : Prop := Claim7.holds Tryz.pinned (.plain (OpenSpec.upto coordBackedSpec)) coordBackedUptoCard

/-- THE SECOND FORM's CARD OF 'barquelaw20.CoordConfirmed'. -/
def coordConfirmedUptoCard : Claim7 := { stood := { row := coordConfirmedUptoRow, standIns := [], harness := (true, "46a009754f2b8cbf77f804bd41b861b4385bdec851d0d59236847740ded01bbc"), looks := false }, kinds := [], alts := [], laidByText := true, laidKinds := [.data, .pinned], laidTests := true, laidLooks := .later }
def CoordConfirmedUptoCardSaid : Prop := Claim7.holds Tryz.pinned (.plain (OpenSpec.upto coordConfirmedSpec)) coordConfirmedUptoCard

/-- THE SECOND FORM's CARD OF 'barquelaw20.CoordServes'. -/
def coordServesUptoCard : Claim7 := { stood := { row := coordServesUptoRow, standIns := [], harness := (true, "46a009754f2b8cbf77f804bd41b861b4385bdec851d0d59236847740ded01bbc"), looks := false }, kinds := [], alts := [], laidByText := true, laidKinds := [.data, .pinned], laidTests := true, laidLooks := .later }
def CoordServesUptoCardSaid : Prop := Claim7.holds Tryz.pinned (.plain (OpenSpec.upto coordServesSpec)) coordServesUptoCard
end Rows
end Go.Proofs.YtaemlplcjjbamaaGreatDoor

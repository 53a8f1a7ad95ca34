/-
  DERIVED. GIVEN WITH THE SEED: THE CARDS: each row of YtohncbgkiojlnaaGreatDoorRows.lean that lists a variable, with what it lists TIED to the program's text (the seventh form; the later family's looks); each row that meets fmt, with fmt's text TOLD by the authors' own Lean function (tested against real Go, not proved from fmt's source: count such statements apart). THE CARD IS WHAT COUNTS. Prove the row's statement (the work); the ties are given (YtohncbgkiojlnaaGreatDoorTie.lean); close each card by the builder's one call (the guide's Derived/Test/ToyasCard.lean, 'card_holds'). Laid BY PROGRAM, IN A SANDBOX (cutbox-door.mjs). By AI agents, Wed Nov 11 2026. No macro, syntax, notation, axiom, sorry.
-/
import Derived.Test.YtohncbgkiojlnaaGreatDoorRows
import GoSem.ClaimSeven
namespace Go.Proofs.YtohncbgkiojlnaaGreatDoor
namespace Rows

/-- THE TIED CARD OF 'stackyardlaw20.SyntaxAlike'. -/
def syntaxAlikeCard : Claim7 := { stood := { row := syntaxAlikeRow, standIns := [], harness := (true, "8e7e5b562c42cac6f82a57e935f71c2851268c11c3015713c233c1ff5aa72a1d"), looks := true }, kinds := [], alts := [], laidByText := true, laidKinds := [.data, .data, .data, .sentinel, .sentinel], laidTests := true, laidLooks := .later }
def SyntaxAlikeCardSaid : Prop := Claim7.holds Tryz.pinned (.plain (OpenSpec.ofChange syntaxAlikeSpec)) syntaxAlikeCard

/-- THE TIED CARD OF 'stackyardlaw20.SyntaxPrints'. -/
def syntaxPrintsCard : Claim7 := { stood := { row := syntaxPrintsRow, standIns := [], harness := (true, "8e7e5b562c42cac6f82a57e935f71c2851268c11c3015713c233c1ff5aa72a1d"), looks := true }, kinds := [], alts := [], laidByText := true, laidKinds := [.data, .data, .data, .sentinel, .sentinel], laidTests := true, laidLooks := .later }
def SyntaxPrintsCardSaid : Prop := Claim7.holds Tryz.pinned (.plain (OpenSpec.ofChange syntaxPrintsSpec)) syntaxPrintsCard

/-- THE TIED CARD OF 'stackyardlaw20.SyntaxBack'. -/
def syntaxBackCard : Claim7 := { stood := { row := syntaxBackRow, standIns := [], harness := (true, "8e7e5b562c42cac6f82a57e935f71c2851268c11c3015713c233c1ff5aa72a1d"), looks := true }, kinds := [], alts := [], laidByText := true, laidKinds := [.data, .data, .data, .sentinel, .sentinel], laidTests := true, laidLooks := .later }
def SyntaxBackCardSaid : Prop := Claim7.holds Tryz.pinned (.plain (OpenSpec.ofChange syntaxBackSpec)) syntaxBackCard

/-- THE TIED CARD OF 'stackyardlaw20.SyntaxAgain'. -/
def syntaxAgainCard : Claim7 := { stood := { row := syntaxAgainRow, standIns := [], harness := (true, "8e7e5b562c42cac6f82a57e935f71c2851268c11c3015713c233c1ff5aa72a1d"), looks := true }, kinds := [], alts := [], laidByText := true, laidKinds := [.data, .data, .data, .sentinel, .sentinel], laidTests := true, laidLooks := .later }
def SyntaxAgainCardSaid : Prop := Claim7.holds Tryz.pinned (.plain (OpenSpec.ofChange syntaxAgainSpec)) syntaxAgainCard

/-- THE TIED CARD OF 'stackyardlaw21.GraphAsks'. -/
def graphAsksCard : Claim7 := { stood := { row := graphAsksRow, standIns := [], harness := (true, "8e7e5b562c42cac6f82a57e935f71c2851268c11c3015713c233c1ff5aa72a1d"), looks := true }, kinds := [], alts := [], laidByText := true, laidKinds := [.data, .data, .data, .sentinel, .sentinel], laidTests := true, laidLooks := .later }
def GraphAsksCardSaid : Prop := Claim7.holds Tryz.pinned (.plain (OpenSpec.ofChange graphAsksSpec)) graphAsksCard

/-- THE SECOND FORM's CARD OF 'stackyardlaw20.SyntaxAlike'. -/
def syntaxAlikeUptoCard : Claim7 := { stood := { row := syntaxAlikeUptoRow, standIns := [], harness := (true, "8e7e5b562c42cac6f82a57e935f71c2851268c11c3015713c233c1ff5aa72a1d"), looks := true }, kinds := [], alts := [], laidByText := true, laidKinds := [.data, .data, .data, .sentinel, .sentinel], laidTests := true, laidLooks := .later }
def SyntaxAlikeUptoCardSaid : Prop := Claim7.holds Tryz.pinned (.plain (OpenSpec.upto syntaxAlikeSpec)) syntaxAlikeUptoCard

/-- THE SECOND FORM's CARD OF 'stackyardlaw20.SyntaxPrints'. -/
def syntaxPrintsUptoCard : Claim7 := { stood := { row := syntaxPrintsUptoRow, standIns := [], harness := (true, "8e7e5b562c42cac6f82a57e935f71c2851268c11c3015713c233c1ff5aa72a1d"), looks := true }, kinds := [], alts := [], laidByText := true, laidKinds := [.data, .data, .data, .sentinel, .sentinel], laidTests := true, laidLooks := .later }
def SyntaxPrintsUptoCardSaid : Prop := Claim7.holds Tryz.pinned (.plain (OpenSpec.upto syntaxPrintsSpec)) syntaxPrintsUptoCard

/-- THE SECOND FORM's CARD OF 'stackyardlaw20.SyntaxBack'. -/
def syntaxBackUptoCard : Claim7 := { stood := { row := syntaxBackUptoRow, standIns := [], harness := (true, "8e7e5b562c42cac6f82a57e935f71c2851268c11c3015713c233c1ff5aa72a1d"), looks := true }, kinds := [], alts := [], laidByText := true, laidKinds := [.data, .data, .data, .sentinel, .sentinel], laidTests := true, laidLooks := .later }
def SyntaxBackUptoCardSaid : Prop := Claim7.holds Tryz.pinned (.plain (OpenSpec.upto syntaxBackSpec)) syntaxBackUptoCard

/-- THE SECOND FORM's CARD OF 'stackyardlaw20.SyntaxAgain'. -/
def syntaxAgainUptoCard : Claim7 := { stood := { row := syntaxAgainUptoRow, standIns := [], harness := (true, "8e7e5b562c42cac6f82a57e935f71c2851268c11c3015713c233c1ff5aa72a1d"), looks := true }, kinds := [], alts := [], laidByText := true, laidKinds := [.data, .data, .data, .sentinel, .sentinel], laidTests := true, laidLooks := .later }
def SyntaxAgainUptoCardSaid : Prop := Claim7.holds Tryz.pinned (.plain (OpenSpec.upto syntaxAgainSpec)) syntaxAgainUptoCard

/-- THE SECOND FORM's CARD OF 'stackyardlaw21.GraphAsks'. -/
def graphAsksUptoCard : Claim7 := { stood := { row := graphAsksUptoRow, standIns := [], harness := (true, "8e7e5b562c42cac6f82a57e935f71c2851268c11c3015713c233c1ff5aa72a1d"), looks := true }, kinds := [], alts := [], laidByText := true, laidKinds := [.data, .data, .data, .sentinel, .sentinel], laidTests := true, laidLooks := .later }
def GraphAsksUptoCardSaid : Prop := Claim7.holds Tryz.pinned (.plain (OpenSpec.upto graphAsksSpec)) graphAsksUptoCard
end Rows
end Go.Proofs.YtohncbgkiojlnaaGreatDoor

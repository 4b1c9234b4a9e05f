/-
  DERIVED. GIVEN WITH THE SEED: THE CARDS: each row of YtdlddkgmjpmenaaGreatDoorRows.lean that lists a variable, with what it lists TIED to the program's text (the seventh form; the later family's looks); each row that meets fmt, with fmt's text TOLD by the authors' own Lean function (tested against real Go, not proved from fmt's source: count such statements apart). THE CARD IS WHAT COUNTS. Prove the row's statement (the work); the ties are given (YtdlddkgmjpmenaaGreatDoorTie.lean); close each card by the builder's one call (the guide's Derived/Test/ToyasCard.lean, 'card_holds'). Laid BY PROGRAM, IN A SANDBOX (cutbox-door.mjs). By AI agents, Wed Nov 11 2026. No macro, syntax, notation, axiom, sorry.
-/
import Derived.Test.YtdlddkgmjpmenaaGreatDoorRows
import GoSem.ClaimSeven
namespace Go.Proofs.YtdlddkgmjpmenaaGreatDoor
namespace Rows

/-- THE TIED CARD OF 'laws.FnExactParseProgram'. -/
def fnExactParseProgramCard : Claim7 := { stood := { row := fnExactParseProgramRow, standIns := [], harness := (true, "25e2f8cb60fccaf6f066ec2c07eb04252b313cd0ab8456908dcf1468e6273d10"), looks := true }, kinds := [], alts := [], laidByText := true, laidKinds := [.data, .data, .data, .data, .sentinel, .sentinel, .pinned], laidTests := true, laidLooks := .later }
def FnExactParseProgramCardSaid : Prop := Claim7.holds Tryz.pinned (.plain (OpenSpec.ofChange fnExactParseProgramSpec)) fnExactParseProgramCard

/-- THE TIED CARD OF 'laws.FnLanguage'. -/
def fnLanguageCard : Claim7 := { stood := { row := fnLanguageRow, standIns := [], harness := (true, "25e2f8cb60fccaf6f066ec2c07eb04252b313cd0ab8456908dcf1468e6273d10"), looks := true }, kinds := [], alts := [], laidByText := true, laidKinds := [.data, .data, .data, .data, .sentinel, .sentinel, .pinned], laidTests := true, laidLooks := .later }
def FnLanguageCardSaid : Prop := Claim7.holds Tryz.pinned (.plain (OpenSpec.ofChange fnLanguageSpec)) fnLanguageCard

/-- THE SECOND FORM's CARD OF 'laws.FnExactParseProgram'. -/
def fnExactParseProgramUptoCard : Claim7 := { stood := { row := fnExactParseProgramUptoRow, standIns := [], harness := (true, "25e2f8cb60fccaf6f066ec2c07eb04252b313cd0ab8456908dcf1468e6273d10"), looks := true }, kinds := [], alts := [], laidByText := true, laidKinds := [.data, .data, .data, .data, .sentinel, .sentinel, .pinned], laidTests := true, laidLooks := .later }
def FnExactParseProgramUptoCardSaid : Prop := Claim7.holds Tryz.pinned (.plain (OpenSpec.upto fnExactParseProgramSpec)) fnExactParseProgramUptoCard

/-- THE SECOND FORM's CARD OF 'laws.FnLanguage'. -/
def fnLanguageUptoCard : Claim7 := { stood := { row := fnLanguageUptoRow, standIns := [], harness := (true, "25e2f8cb60fccaf6f066ec2c07eb04252b313cd0ab8456908dcf1468e6273d10"), looks := true }, kinds := [], alts := [], laidByText := true, laidKinds := [.data, .data, .data, .data, .sentinel, .sentinel, .pinned], laidTests := true, laidLooks := .later }
def FnLanguageUptoCardSaid : Prop := Claim7.holds Tryz.pinned (.plain (OpenSpec.upto fnLanguageSpec)) fnLanguageUptoCard
end Rows
end Go.Proofs.YtdlddkgmjpmenaaGreatDoor

/-
  DERIVED. GIVEN WITH THE SEED: THE CARDS: each row of YtkoiiafighfibaaGreatDoorRows.lean that lists a variable, with what it lists TIED to the program's text (the seventh form; the later family's looks); each row that meets fmt, with fmt's text TOLD by the authors' own Lean function (tested against real Go, not proved from fmt's source: count such statements apart). THE CARD IS WHAT COUNTS. Prove the row's statement (the work); the ties are given (YtkoiiafighfibaaGreatDoorTie.lean); close each card by the builder's one call (the guide's Derived/Test/ToyasCard.lean, 'card_holds'). Laid BY PROGRAM, IN A SANDBOX (cutbox-door.mjs). By AI agents, Wed Nov 11 2026. No macro, syntax, notation, axiom, sorry.
-/
import Derived.Test.YtkoiiafighfibaaGreatDoorRows
import GoSem.ClaimSeven
namespace Go.Proofs.YtkoiiafighfibaaGreatDoor
namespace Rows

/-- THE TIED CARD OF 'tailracelaw23.FeederNobody'. -/
def feederNobodyCard : Claim7 := { stood := { row := feederNobodyRow, standIns := [], harness := (true, "6c745331d313960a0db00701511cf19ddcb147a044419bc919f09237b1ee83e3"), looks := true }, kinds := [], alts := [], laidByText := true, laidKinds := [.data, .data, .data, .data, .sentinel, .sentinel, .pinned], laidTests := true, laidLooks := .later }
def FeederNobodyCardSaid : Prop := Claim7.holds Tryz.pinned (.plain (OpenSpec.ofChange feederNobodySpec)) feederNobodyCard

/-- THE SECOND FORM's CARD OF 'tailracelaw23.FeederNobody'. -/
def feederNobodyUptoCard : Claim7 := { stood := { row := feederNobodyUptoRow, standIns := [], harness := (true, "6c745331d313960a0db00701511cf19ddcb147a044419bc919f09237b1ee83e3"), looks := true }, kinds := [], alts := [], laidByText := true, laidKinds := [.data, .data, .data, .data, .sentinel, .sentinel, .pinned], laidTests := true, laidLooks := .later }
def FeederNobodyUptoCardSaid : Prop := Claim7.holds Tryz.pinned (.plain (OpenSpec.upto feederNobodySpec)) feederNobodyUptoCard
end Rows
end Go.Proofs.YtkoiiafighfibaaGreatDoor

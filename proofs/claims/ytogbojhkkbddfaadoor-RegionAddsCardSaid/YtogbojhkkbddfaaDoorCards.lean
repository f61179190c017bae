/-
  DERIVED. GIVEN WITH THE SEED: THE CARDS: each row of YtogbojhkkbddfaaDoorRows.lean that lists a variable, with what it lists TIED to the program's text (the seventh form; the later family's looks); each row that meets fmt, with fmt's text TOLD by the authors' own Lean function (tested against real Go, not proved from fmt's source: count such statements apart). THE CARD IS WHAT COUNTS. Prove the row's statement (the work); the ties are given (YtogbojhkkbddfaaDoorTie.lean); close each card by the builder's one call (the guide's Derived/Test/ToyasCard.lean, 'card_holds'). Laid BY PROGRAM, IN A SANDBOX (cutbox-door.mjs). By AI agents, Wed Nov 11 2026. No macro, syntax, notation, axiom, sorry.
-/
import Derived.Test.YtogbojhkkbddfaaDoorRows
import GoSem.ClaimSeven
namespace Go.Proofs.YtogbojhkkbddfaaDoor
namespace Rows

/-- THE TIED CARD OF 'halterlaw13.RegionAdds'. -/
def regionAddsCard : Claim7 := { stood := { row := regionAddsRow, standIns := [], harness := (true, "2ebaa3057d1ad344a9242603358c42fa9e4bf044b0792f510edd01a2a062ce2c"), looks := true }, kinds := [], alts := [], laidByText := true, laidKinds := [.handle], laidTests := true, laidLooks := .later }
def RegionAddsCardSaid : Prop := Claim7.holds Tryd.pinned (.plain (OpenSpec.ofChange regionAddsSpec)) regionAddsCard

/-- THE SECOND FORM's CARD OF 'halterlaw13.RegionAdds'. -/
def regionAddsUptoCard : Claim7 := { stood := { row := regionAddsUptoRow, standIns := [], harness := (true, "2ebaa3057d1ad344a9242603358c42fa9e4bf044b0792f510edd01a2a062ce2c"), looks := true }, kinds := [], alts := [], laidByText := true, laidKinds := [.handle], laidTests := true, laidLooks := .later }
def RegionAddsUptoCardSaid : Prop := Claim7.holds Tryd.pinned (.plain (OpenSpec.upto regionAddsSpec)) regionAddsUptoCard
end Rows
end Go.Proofs.YtogbojhkkbddfaaDoor

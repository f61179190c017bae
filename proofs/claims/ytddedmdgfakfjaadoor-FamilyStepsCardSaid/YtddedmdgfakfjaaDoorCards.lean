/-
  DERIVED. GIVEN WITH THE SEED: THE CARDS: each row of YtddedmdgfakfjaaDoorRows.lean that lists a variable, with what it lists TIED to the program's text (the seventh form; the later family's looks); each row that meets fmt, with fmt's text TOLD by the authors' own Lean function (tested against real Go, not proved from fmt's source: count such statements apart). THE CARD IS WHAT COUNTS. Prove the row's statement (the work); the ties are given (YtddedmdgfakfjaaDoorTie.lean); close each card by the builder's one call (the guide's Derived/Test/ToyasCard.lean, 'card_holds'). Laid BY PROGRAM, IN A SANDBOX (cutbox-door.mjs). By AI agents, Wed Nov 11 2026. No macro, syntax, notation, axiom, sorry.
-/
import Derived.Test.YtddedmdgfakfjaaDoorRows
import GoSem.ClaimSeven
namespace Go.Proofs.YtddedmdgfakfjaaDoor
namespace Rows

/-- THE TIED CARD OF 'halterlaw24.FamilySteps'. -/
def familyStepsCard : Claim7 := { stood := { row := familyStepsRow, standIns := [], harness := (true, "51fae3ebe6500e949cd5d9de2aadc757581fcfbb4a8adbd8eed033d9c1cbfcdc"), looks := true }, kinds := [], alts := [], laidByText := true, laidKinds := [.handle], laidTests := true, laidLooks := .later }
def FamilyStepsCardSaid : Prop := Claim7.holds Tryd.pinned (.plain (OpenSpec.ofChange familyStepsSpec)) familyStepsCard

/-- THE TIED CARD OF 'halterlaw24.FamilyOrphans'. -/
def familyOrphansCard : Claim7 := { stood := { row := familyOrphansRow, standIns := [], harness := (true, "51fae3ebe6500e949cd5d9de2aadc757581fcfbb4a8adbd8eed033d9c1cbfcdc"), looks := true }, kinds := [], alts := [], laidByText := true, laidKinds := [.handle], laidTests := true, laidLooks := .later }
def FamilyOrphansCardSaid : Prop := Claim7.holds Tryd.pinned (.plain (OpenSpec.ofChange familyOrphansSpec)) familyOrphansCard

/-- THE SECOND FORM's CARD OF 'halterlaw24.FamilySteps'. -/
def familyStepsUptoCard : Claim7 := { stood := { row := familyStepsUptoRow, standIns := [], harness := (true, "51fae3ebe6500e949cd5d9de2aadc757581fcfbb4a8adbd8eed033d9c1cbfcdc"), looks := true }, kinds := [], alts := [], laidByText := true, laidKinds := [.handle], laidTests := true, laidLooks := .later }
def FamilyStepsUptoCardSaid : Prop := Claim7.holds Tryd.pinned (.plain (OpenSpec.upto familyStepsSpec)) familyStepsUptoCard

/-- THE SECOND FORM's CARD OF 'halterlaw24.FamilyOrphans'. -/
def familyOrphansUptoCard : Claim7 := { stood := { row := familyOrphansUptoRow, standIns := [], harness := (true, "51fae3ebe6500e949cd5d9de2aadc757581fcfbb4a8adbd8eed033d9c1cbfcdc"), looks := true }, kinds := [], alts := [], laidByText := true, laidKinds := [.handle], laidTests := true, laidLooks := .later }
def FamilyOrphansUptoCardSaid : Prop := Claim7.holds Tryd.pinned (.plain (OpenSpec.upto familyOrphansSpec)) familyOrphansUptoCard
end Rows
end Go.Proofs.YtddedmdgfakfjaaDoor

/-
  DERIVED. GIVEN WITH THE SEED: THE CARDS: each row of YtjhdkjacfclipaaDoorRows.lean that lists a variable, with what it lists TIED to the program's text (the seventh form; the later family's looks); each row that meets fmt, with fmt's text TOLD by the authors' own Lean function (tested against real Go, not proved from fmt's source: count such statements apart). THE CARD IS WHAT COUNTS. Prove the row's statement (the work); the ties are given (YtjhdkjacfclipaaDoorTie.lean); close each card by the builder's one call (the guide's Derived/Test/ToyasCard.lean, 'card_holds'). Laid BY PROGRAM, IN A SANDBOX (cutbox-door.mjs). By AI agents, Wed Nov 11 2026. No macro, syntax, notation, axiom, sorry.
-/
import Derived.Test.YtjhdkjacfclipaaDoorRows
import GoSem.ClaimSeven
namespace Go.Proofs.YtjhdkjacfclipaaDoor
namespace Rows

/-- THE TIED CARD OF 'laws.FnExactLevelsOf'. -/
def fnExactLevelsOfCard : Claim7 := { stood := { row := fnExactLevelsOfRow, standIns := [], harness := (true, "0ec2f06c43091e0a2c2047948561f23a5a3d478f6179306b5baacf5adfcf5a75"), looks := false }, kinds := [], alts := [], laidByText := true, laidKinds := [.data, .data, .data], laidTests := true, laidLooks := .later }
def FnExactLevelsOfCardSaid : Prop := Claim7.holds Tryd.pinned (.plain (OpenSpec.ofChange fnExactLevelsOfSpec)) fnExactLevelsOfCard

/-- THE SECOND FORM's CARD OF 'laws.FnExactLevelsOf'. -/
def fnExactLevelsOfUptoCard : Claim7 := { stood := { row := fnExactLevelsOfUptoRow, standIns := [], harness := (true, "0ec2f06c43091e0a2c2047948561f23a5a3d478f6179306b5baacf5adfcf5a75"), looks := false }, kinds := [], alts := [], laidByText := true, laidKinds := [.data, .data, .data], laidTests := true, laidLooks := .later }
def FnExactLevelsOfUptoCardSaid : Prop := Claim7.holds Tryd.pinned (.plain (OpenSpec.upto fnExactLevelsOfSpec)) fnExactLevelsOfUptoCard
end Rows
end Go.Proofs.YtjhdkjacfclipaaDoor

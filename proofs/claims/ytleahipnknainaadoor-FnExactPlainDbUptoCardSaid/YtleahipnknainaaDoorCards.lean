/-
  DERIVED. GIVEN WITH THE SEED: THE CARDS: each row of YtleahipnknainaaDoorRows.lean that lists a variable, with what it lists TIED to the program's text (the seventh form; the later family's looks); each row that meets fmt, with fmt's text TOLD by the authors' own Lean function (tested against real Go, not proved from fmt's source: count such statements apart). THE CARD IS WHAT COUNTS. Prove the row's statement (the work); the ties are given (YtleahipnknainaaDoorTie.lean); close each card by the builder's one call (the guide's Derived/Test/ToyasCard.lean, 'card_holds'). Laid BY PROGRAM, IN A SANDBOX (cutbox-door.mjs). By AI agents, Wed Nov 11 2026. No macro, syntax, notation, axiom, sorry.
-/
import Derived.Test.YtleahipnknainaaDoorRows
import GoSem.ClaimSeven
namespace Go.Proofs.YtleahipnknainaaDoor
namespace Rows

/-- THE TIED CARD OF 'laws.FnExactPredsOf'. -/
def fnExactPredsOfCard : Claim7 := { stood := { row := fnExactPredsOfRow, standIns := [], harness := (true, "b6e83ced9ef5c8c3603f2479c7b30452e35e32ae7a68d4d9bc608bb30871cbac"), looks := false }, kinds := [], alts := [], laidByText := true, laidKinds := [.data, .data, .data], laidTests := true, laidLooks := .later }
def FnExactPredsOfCardSaid : Prop := Claim7.holds Tryd.pinned (.plain (OpenSpec.ofChange fnExactPredsOfSpec)) fnExactPredsOfCard

/-- THE TIED CARD OF 'laws.FnExactGoalsIn'. -/
def fnExactGoalsInCard : Claim7 := { stood := { row := fnExactGoalsInRow, standIns := [], harness := (true, "b6e83ced9ef5c8c3603f2479c7b30452e35e32ae7a68d4d9bc608bb30871cbac"), looks := false }, kinds := [], alts := [], laidByText := true, laidKinds := [.data, .data, .data], laidTests := true, laidLooks := .later }
def FnExactGoalsInCardSaid : Prop := Claim7.holds Tryd.pinned (.plain (OpenSpec.ofChange fnExactGoalsInSpec)) fnExactGoalsInCard

/-- THE TIED CARD OF 'laws.FnExactCallsIn'. -/
def fnExactCallsInCard : Claim7 := { stood := { row := fnExactCallsInRow, standIns := [], harness := (true, "b6e83ced9ef5c8c3603f2479c7b30452e35e32ae7a68d4d9bc608bb30871cbac"), looks := false }, kinds := [], alts := [], laidByText := true, laidKinds := [.data, .data, .data], laidTests := true, laidLooks := .later }
def FnExactCallsInCardSaid : Prop := Claim7.holds Tryd.pinned (.plain (OpenSpec.ofChange fnExactCallsInSpec)) fnExactCallsInCard

/-- THE TIED CARD OF 'laws.FnExactWarnApart'. -/
def fnExactWarnApartCard : Claim7 := { stood := { row := fnExactWarnApartRow, standIns := [], harness := (true, "b6e83ced9ef5c8c3603f2479c7b30452e35e32ae7a68d4d9bc608bb30871cbac"), looks := false }, kinds := [], alts := [], laidByText := true, laidKinds := [.data, .data, .data], laidTests := true, laidLooks := .later }
def FnExactWarnApartCardSaid : Prop := Claim7.holds Tryd.pinned (.plain (OpenSpec.ofChange fnExactWarnApartSpec)) fnExactWarnApartCard

/-- THE TIED CARD OF 'laws.FnExactPlainDb'. -/
def fnExactPlainDbCard : Claim7 := { stood := { row := fnExactPlainDbRow, standIns := [], harness := (true, "b6e83ced9ef5c8c3603f2479c7b30452e35e32ae7a68d4d9bc608bb30871cbac"), looks := false }, kinds := [], alts := [], laidByText := true, laidKinds := [.data, .data, .data], laidTests := true, laidLooks := .later }
def FnExactPlainDbCardSaid : Prop := Claim7.holds Tryd.pinned (.plain (OpenSpec.ofChange fnExactPlainDbSpec)) fnExactPlainDbCard

/-- THE TIED CARD OF 'laws.FnExactRecursive'. -/
def fnExactRecursiveCard : Claim7 := { stood := { row := fnExactRecursiveRow, standIns := [], harness := (true, "b6e83ced9ef5c8c3603f2479c7b30452e35e32ae7a68d4d9bc608bb30871cbac"), looks := false }, kinds := [], alts := [], laidByText := true, laidKinds := [.data, .data, .data], laidTests := true, laidLooks := .later }
def FnExactRecursiveCardSaid : Prop := Claim7.holds Tryd.pinned (.plain (OpenSpec.ofChange fnExactRecursiveSpec)) fnExactRecursiveCard

/-- THE TIED CARD OF 'laws.FnExactCallsOf'. -/
def fnExactCallsOfCard : Claim7 := { stood := { row := fnExactCallsOfRow, standIns := [], harness := (true, "b6e83ced9ef5c8c3603f2479c7b30452e35e32ae7a68d4d9bc608bb30871cbac"), looks := false }, kinds := [], alts := [], laidByText := true, laidKinds := [.data, .data, .data], laidTests := true, laidLooks := .later }
def FnExactCallsOfCardSaid : Prop := Claim7.holds Tryd.pinned (.plain (OpenSpec.ofChange fnExactCallsOfSpec)) fnExactCallsOfCard

/-- THE TIED CARD OF 'laws.FnExactFlatDb'. -/
def fnExactFlatDbCard : Claim7 := { stood := { row := fnExactFlatDbRow, standIns := [], harness := (true, "b6e83ced9ef5c8c3603f2479c7b30452e35e32ae7a68d4d9bc608bb30871cbac"), looks := false }, kinds := [], alts := [], laidByText := true, laidKinds := [.data, .data, .data], laidTests := true, laidLooks := .later }
def FnExactFlatDbCardSaid : Prop := Claim7.holds Tryd.pinned (.plain (OpenSpec.ofChange fnExactFlatDbSpec)) fnExactFlatDbCard

/-- THE TIED CARD OF 'laws.FnExactReachedFrom'. -/
def fnExactReachedFromCard : Claim7 := { stood := { row := fnExactReachedFromRow, standIns := [], harness := (true, "b6e83ced9ef5c8c3603f2479c7b30452e35e32ae7a68d4d9bc608bb30871cbac"), looks := false }, kinds := [], alts := [], laidByText := true, laidKinds := [.data, .data, .data], laidTests := true, laidLooks := .later }
def FnExactReachedFromCardSaid : Prop := Claim7.holds Tryd.pinned (.plain (OpenSpec.ofChange fnExactReachedFromSpec)) fnExactReachedFromCard

/-- THE TIED CARD OF 'laws.FnExactWarnMissing'. -/
def fnExactWarnMissingCard : Claim7 := { stood := { row := fnExactWarnMissingRow, standIns := [], harness := (true, "b6e83ced9ef5c8c3603f2479c7b30452e35e32ae7a68d4d9bc608bb30871cbac"), looks := false }, kinds := [], alts := [], laidByText := true, laidKinds := [.data, .data, .data], laidTests := true, laidLooks := .later }
def FnExactWarnMissingCardSaid : Prop := Claim7.holds Tryd.pinned (.plain (OpenSpec.ofChange fnExactWarnMissingSpec)) fnExactWarnMissingCard

/-- THE TIED CARD OF 'laws.FnExactMissingIn'. -/
def fnExactMissingInCard : Claim7 := { stood := { row := fnExactMissingInRow, standIns := [], harness := (true, "b6e83ced9ef5c8c3603f2479c7b30452e35e32ae7a68d4d9bc608bb30871cbac"), looks := false }, kinds := [], alts := [], laidByText := true, laidKinds := [.data, .data, .data], laidTests := true, laidLooks := .later }
def FnExactMissingInCardSaid : Prop := Claim7.holds Tryd.pinned (.plain (OpenSpec.ofChange fnExactMissingInSpec)) fnExactMissingInCard

/-- THE TIED CARD OF 'laws.FnExactUnreached'. -/
def fnExactUnreachedCard : Claim7 := { stood := { row := fnExactUnreachedRow, standIns := [], harness := (true, "b6e83ced9ef5c8c3603f2479c7b30452e35e32ae7a68d4d9bc608bb30871cbac"), looks := false }, kinds := [], alts := [], laidByText := true, laidKinds := [.data, .data, .data], laidTests := true, laidLooks := .later }
def FnExactUnreachedCardSaid : Prop := Claim7.holds Tryd.pinned (.plain (OpenSpec.ofChange fnExactUnreachedSpec)) fnExactUnreachedCard

/-- THE SECOND FORM's CARD OF 'laws.FnExactPredsOf'. -/
def fnExactPredsOfUptoCard : Claim7 := { stood := { row := fnExactPredsOfUptoRow, standIns := [], harness := (true, "b6e83ced9ef5c8c3603f2479c7b30452e35e32ae7a68d4d9bc608bb30871cbac"), looks := false }, kinds := [], alts := [], laidByText := true, laidKinds := [.data, .data, .data], laidTests := true, laidLooks := .later }
def FnExactPredsOfUptoCardSaid : Prop := Claim7.holds Tryd.pinned (.plain (OpenSpec.upto fnExactPredsOfSpec)) fnExactPredsOfUptoCard

/-- THE SECOND FORM's CARD OF 'laws.FnExactGoalsIn'. -/
def fnExactGoalsInUptoCard : Claim7 := { stood := { row := fnExactGoalsInUptoRow, standIns := [], harness := (true, "b6e83ced9ef5c8c3603f2479c7b30452e35e32ae7a68d4d9bc608bb30871cbac"), looks := false }, kinds := [], alts := [], laidByText := true, laidKinds := [.data, .data, .data], laidTests := true, laidLooks := .later }
def FnExactGoalsInUptoCardSaid : Prop := Claim7.holds Tryd.pinned (.plain (OpenSpec.upto fnExactGoalsInSpec)) fnExactGoalsInUptoCard

/-- THE SECOND FORM's CARD OF 'laws.FnExactCallsIn'. -/
def fnExactCallsInUptoCard : Claim7 := { stood := { row := fnExactCallsInUptoRow, standIns := [], harness := (true, "b6e83ced9ef5c8c3603f2479c7b30452e35e32ae7a68d4d9bc608bb30871cbac"), looks := false }, kinds := [], alts := [], laidByText := true, laidKinds := [.data, .data, .data], laidTests := true, laidLooks := .later }
def FnExactCallsInUptoCardSaid : Prop := Claim7.holds Tryd.pinned (.plain (OpenSpec.upto fnExactCallsInSpec)) fnExactCallsInUptoCard

/-- THE SECOND FORM's CARD OF 'laws.FnExactWarnApart'. -/
def fnExactWarnApartUptoCard : Claim7 := { stood := { row := fnExactWarnApartUptoRow, standIns := [], harness := (true, "b6e83ced9ef5c8c3603f2479c7b30452e35e32ae7a68d4d9bc608bb30871cbac"), looks := false }, kinds := [], alts := [], laidByText := true, laidKinds := [.data, .data, .data], laidTests := true, laidLooks := .later }
def FnExactWarnApartUptoCardSaid : Prop := Claim7.holds Tryd.pinned (.plain (OpenSpec.upto fnExactWarnApartSpec)) fnExactWarnApartUptoCard

/-- THE SECOND FORM's CARD OF 'laws.FnExactPlainDb'. -/
def fnExactPlainDbUptoCard : Claim7 := { stood := { row := fnExactPlainDbUptoRow, standIns := [], harness := (true, "b6e83ced9ef5c8c3603f2479c7b30452e35e32ae7a68d4d9bc608bb30871cbac"), looks := false }, kinds := [], alts := [], laidByText := true, laidKinds := [.data, .data, .data], laidTests := true, laidLooks := .later }
def FnExactPlainDbUptoCardSaid : Prop := Claim7.holds Tryd.pinned (.plain (OpenSpec.upto fnExactPlainDbSpec)) fnExactPlainDbUptoCard

/-- THE SECOND FORM's CARD OF 'laws.FnExactRecursive'. -/
def fnExactRecursiveUptoCard : Claim7 := { stood := { row := fnExactRecursiveUptoRow, standIns := [], harness := (true, "b6e83ced9ef5c8c3603f2479c7b30452e35e32ae7a68d4d9bc608bb30871cbac"), looks := false }, kinds := [], alts := [], laidByText := true, laidKinds := [.data, .data, .data], laidTests := true, laidLooks := .later }
def FnExactRecursiveUptoCardSaid : Prop := Claim7.holds Tryd.pinned (.plain (OpenSpec.upto fnExactRecursiveSpec)) fnExactRecursiveUptoCard

/-- THE SECOND FORM's CARD OF 'laws.FnExactCallsOf'. -/
def fnExactCallsOfUptoCard : Claim7 := { stood := { row := fnExactCallsOfUptoRow, standIns := [], harness := (true, "b6e83ced9ef5c8c3603f2479c7b30452e35e32ae7a68d4d9bc608bb30871cbac"), looks := false }, kinds := [], alts := [], laidByText := true, laidKinds := [.data, .data, .data], laidTests := true, laidLooks := .later }
def FnExactCallsOfUptoCardSaid : Prop := Claim7.holds Tryd.pinned (.plain (OpenSpec.upto fnExactCallsOfSpec)) fnExactCallsOfUptoCard

/-- THE SECOND FORM's CARD OF 'laws.FnExactFlatDb'. -/
def fnExactFlatDbUptoCard : Claim7 := { stood := { row := fnExactFlatDbUptoRow, standIns := [], harness := (true, "b6e83ced9ef5c8c3603f2479c7b30452e35e32ae7a68d4d9bc608bb30871cbac"), looks := false }, kinds := [], alts := [], laidByText := true, laidKinds := [.data, .data, .data], laidTests := true, laidLooks := .later }
def FnExactFlatDbUptoCardSaid : Prop := Claim7.holds Tryd.pinned (.plain (OpenSpec.upto fnExactFlatDbSpec)) fnExactFlatDbUptoCard

/-- THE SECOND FORM's CARD OF 'laws.FnExactReachedFrom'. -/
def fnExactReachedFromUptoCard : Claim7 := { stood := { row := fnExactReachedFromUptoRow, standIns := [], harness := (true, "b6e83ced9ef5c8c3603f2479c7b30452e35e32ae7a68d4d9bc608bb30871cbac"), looks := false }, kinds := [], alts := [], laidByText := true, laidKinds := [.data, .data, .data], laidTests := true, laidLooks := .later }
def FnExactReachedFromUptoCardSaid : Prop := Claim7.holds Tryd.pinned (.plain (OpenSpec.upto fnExactReachedFromSpec)) fnExactReachedFromUptoCard

/-- THE SECOND FORM's CARD OF 'laws.FnExactWarnMissing'. -/
def fnExactWarnMissingUptoCard : Claim7 := { stood := { row := fnExactWarnMissingUptoRow, standIns := [], harness := (true, "b6e83ced9ef5c8c3603f2479c7b30452e35e32ae7a68d4d9bc608bb30871cbac"), looks := false }, kinds := [], alts := [], laidByText := true, laidKinds := [.data, .data, .data], laidTests := true, laidLooks := .later }
def FnExactWarnMissingUptoCardSaid : Prop := Claim7.holds Tryd.pinned (.plain (OpenSpec.upto fnExactWarnMissingSpec)) fnExactWarnMissingUptoCard

/-- THE SECOND FORM's CARD OF 'laws.FnExactMissingIn'. -/
def fnExactMissingInUptoCard : Claim7 := { stood := { row := fnExactMissingInUptoRow, standIns := [], harness := (true, "b6e83ced9ef5c8c3603f2479c7b30452e35e32ae7a68d4d9bc608bb30871cbac"), looks := false }, kinds := [], alts := [], laidByText := true, laidKinds := [.data, .data, .data], laidTests := true, laidLooks := .later }
def FnExactMissingInUptoCardSaid : Prop := Claim7.holds Tryd.pinned (.plain (OpenSpec.upto fnExactMissingInSpec)) fnExactMissingInUptoCard

/-- THE SECOND FORM's CARD OF 'laws.FnExactUnreached'. -/
def fnExactUnreachedUptoCard : Claim7 := { stood := { row := fnExactUnreachedUptoRow, standIns := [], harness := (true, "b6e83ced9ef5c8c3603f2479c7b30452e35e32ae7a68d4d9bc608bb30871cbac"), looks := false }, kinds := [], alts := [], laidByText := true, laidKinds := [.data, .data, .data], laidTests := true, laidLooks := .later }
def FnExactUnreachedUptoCardSaid : Prop := Claim7.holds Tryd.pinned (.plain (OpenSpec.upto fnExactUnreachedSpec)) fnExactUnreachedUptoCard
end Rows
end Go.Proofs.YtleahipnknainaaDoor

/-
  DERIVED. GIVEN WITH THE SEED: THE CARDS: each row of YtjgliechbnommaaGreatDoorRows.lean that lists a variable, with what it lists TIED to the program's text (the seventh form; the later family's looks); each row that meets fmt, with fmt's text TOLD by the authors' own Lean function (tested against real Go, not proved from fmt's source: count such statements apart). THE CARD IS WHAT COUNTS. Prove the row's statement (the work); the ties are given (YtjgliechbnommaaGreatDoorTie.lean); close each card by the builder's one call (the guide's Derived/Test/ToyasCard.lean, 'card_holds'). Laid BY PROGRAM, IN A SANDBOX (cutbox-door.mjs). By AI agents, Wed Nov 11 2026. No macro, syntax, notation, axiom, sorry.
-/
import Derived.Test.YtjgliechbnommaaGreatDoorRows
import GoSem.ClaimSeven
namespace Go.Proofs.YtjgliechbnommaaGreatDoor
namespace Rows

/-- THE TIED CARD OF 'laws.FnLevels'. -/
def fnLevelsCard : Claim7 := { stood := { row := fnLevelsRow, standIns := [], harness := (true, "4d58326c05b09a0243a378e2504391cd895229d5c9a5409f93c6595ae36fcb27"), looks := false }, kinds := [], alts := [], laidByText := true, laidKinds := [.data, .data, .data], laidTests := true, laidLooks := .later }
def FnLevelsCardSaid : Prop := Claim7.holds Tryz.pinned (.plain (OpenSpec.ofChange fnLevelsSpec)) fnLevelsCard

/-- THE TIED CARD OF 'laws.FnCalls'. -/
def fnCallsCard : Claim7 := { stood := { row := fnCallsRow, standIns := [], harness := (true, "4d58326c05b09a0243a378e2504391cd895229d5c9a5409f93c6595ae36fcb27"), looks := false }, kinds := [], alts := [], laidByText := true, laidKinds := [.data, .data, .data], laidTests := true, laidLooks := .later }
def FnCallsCardSaid : Prop := Claim7.holds Tryz.pinned (.plain (OpenSpec.ofChange fnCallsSpec)) fnCallsCard

/-- THE TIED CARD OF 'laws.FnCallsTold'. -/
def fnCallsToldCard : Claim7 := { stood := { row := fnCallsToldRow, standIns := [], harness := (true, "4d58326c05b09a0243a378e2504391cd895229d5c9a5409f93c6595ae36fcb27"), looks := false }, kinds := [], alts := [], laidByText := true, laidKinds := [.data, .data, .data], laidTests := true, laidLooks := .later }
def FnCallsToldCardSaid : Prop := Claim7.holds Tryz.pinned (.plain (OpenSpec.ofChange fnCallsToldSpec)) fnCallsToldCard

/-- THE TIED CARD OF 'laws.FnWarns'. -/
def fnWarnsCard : Claim7 := { stood := { row := fnWarnsRow, standIns := [], harness := (true, "4d58326c05b09a0243a378e2504391cd895229d5c9a5409f93c6595ae36fcb27"), looks := false }, kinds := [], alts := [], laidByText := true, laidKinds := [.data, .data, .data], laidTests := true, laidLooks := .later }
def FnWarnsCardSaid : Prop := Claim7.holds Tryz.pinned (.plain (OpenSpec.ofChange fnWarnsSpec)) fnWarnsCard

/-- THE SECOND FORM's CARD OF 'laws.FnLevels'. -/
def fnLevelsUptoCard : Claim7 := { stood := { row := fnLevelsUptoRow, standIns := [], harness := (true, "4d58326c05b09a0243a378e2504391cd895229d5c9a5409f93c6595ae36fcb27"), looks := false }, kinds := [], alts := [], laidByText := true, laidKinds := [.data, .data, .data], laidTests := true, laidLooks := .later }
def FnLevelsUptoCardSaid : Prop := Claim7.holds Tryz.pinned (.plain (OpenSpec.upto fnLevelsSpec)) fnLevelsUptoCard

/-- THE SECOND FORM's CARD OF 'laws.FnCalls'. -/
def fnCallsUptoCard : Claim7 := { stood := { row := fnCallsUptoRow, standIns := [], harness := (true, "4d58326c05b09a0243a378e2504391cd895229d5c9a5409f93c6595ae36fcb27"), looks := false }, kinds := [], alts := [], laidByText := true, laidKinds := [.data, .data, .data], laidTests := true, laidLooks := .later }
def FnCallsUptoCardSaid : Prop := Claim7.holds Tryz.pinned (.plain (OpenSpec.upto fnCallsSpec)) fnCallsUptoCard

/-- THE SECOND FORM's CARD OF 'laws.FnCallsTold'. -/
def fnCallsToldUptoCard : Claim7 := { stood := { row := fnCallsToldUptoRow, standIns := [], harness := (true, "4d58326c05b09a0243a378e2504391cd895229d5c9a5409f93c6595ae36fcb27"), looks := false }, kinds := [], alts := [], laidByText := true, laidKinds := [.data, .data, .data], laidTests := true, laidLooks := .later }
def FnCallsToldUptoCardSaid : Prop := Claim7.holds Tryz.pinned (.plain (OpenSpec.upto fnCallsToldSpec)) fnCallsToldUptoCard

/-- THE SECOND FORM's CARD OF 'laws.FnWarns'. -/
def fnWarnsUptoCard : Claim7 := { stood := { row := fnWarnsUptoRow, standIns := [], harness := (true, "4d58326c05b09a0243a378e2504391cd895229d5c9a5409f93c6595ae36fcb27"), looks := false }, kinds := [], alts := [], laidByText := true, laidKinds := [.data, .data, .data], laidTests := true, laidLooks := .later }
def FnWarnsUptoCardSaid : Prop := Claim7.holds Tryz.pinned (.plain (OpenSpec.upto fnWarnsSpec)) fnWarnsUptoCard
end Rows
end Go.Proofs.YtjgliechbnommaaGreatDoor

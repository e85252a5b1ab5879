/-
  DERIVED. GIVEN WITH THE SEED: THE CARDS: each row of YtohpcnagkpikjaaDoorRows.lean that lists a variable, with what it lists TIED to the program's text (the seventh form; the later family's looks); each row that meets fmt, with fmt's text TOLD by the authors' own Lean function (tested against real Go, not proved from fmt's source: count such statements apart). THE CARD IS WHAT COUNTS. Prove the row's statement (the work); the ties are given (YtohpcnagkpikjaaDoorTie.lean); close each card by the builder's one call (the guide's Derived/Test/ToyasCard.lean, 'card_holds'). Laid BY PROGRAM, IN A SANDBOX (cutbox-door.mjs). By AI agents, Wed Nov 11 2026. No macro, syntax, notation, axiom, sorry.
-/
import Derived.Test.YtohpcnagkpikjaaDoorRows
import GoSem.ClaimSeven
namespace Go.Proofs.YtohpcnagkpikjaaDoor
namespace Rows

/-- THE TIED CARD OF 'laws.FnExactShowWarning'. -/
def fnExactShowWarningCard : Claim7 := { stood := { row := fnExactShowWarningRow, standIns := [], harness := (true, "d49bd9668f2693a274ab43b329037a63d303d4bc03b213f8d54d8fc40d6d05cb"), looks := false }, kinds := [], alts := [], laidByText := true, laidKinds := [.data, .data, .data], laidTests := true, laidLooks := .later }
def FnExactShowWarningCardSaid : Prop := Claim7.holds Tryd.pinned (.plain (OpenSpec.ofChange fnExactShowWarningSpec)) fnExactShowWarningCard

/-- THE TIED CARD OF 'laws.FnExactFlatTerm'. -/
def fnExactFlatTermCard : Claim7 := { stood := { row := fnExactFlatTermRow, standIns := [], harness := (true, "d49bd9668f2693a274ab43b329037a63d303d4bc03b213f8d54d8fc40d6d05cb"), looks := false }, kinds := [], alts := [], laidByText := true, laidKinds := [.data, .data, .data], laidTests := true, laidLooks := .later }
def FnExactFlatTermCardSaid : Prop := Claim7.holds Tryd.pinned (.plain (OpenSpec.ofChange fnExactFlatTermSpec)) fnExactFlatTermCard

/-- THE SECOND FORM's CARD OF 'laws.FnExactShowWarning'. -/
def fnExactShowWarningUptoCard : Claim7 := { stood := { row := fnExactShowWarningUptoRow, standIns := [], harness := (true, "d49bd9668f2693a274ab43b329037a63d303d4bc03b213f8d54d8fc40d6d05cb"), looks := false }, kinds := [], alts := [], laidByText := true, laidKinds := [.data, .data, .data], laidTests := true, laidLooks := .later }
def FnExactShowWarningUptoCardSaid : Prop := Claim7.holds Tryd.pinned (.plain (OpenSpec.upto fnExactShowWarningSpec)) fnExactShowWarningUptoCard

/-- THE SECOND FORM's CARD OF 'laws.FnExactFlatTerm'. -/
def fnExactFlatTermUptoCard : Claim7 := { stood := { row := fnExactFlatTermUptoRow, standIns := [], harness := (true, "d49bd9668f2693a274ab43b329037a63d303d4bc03b213f8d54d8fc40d6d05cb"), looks := false }, kinds := [], alts := [], laidByText := true, laidKinds := [.data, .data, .data], laidTests := true, laidLooks := .later }
def FnExactFlatTermUptoCardSaid : Prop := Claim7.holds Tryd.pinned (.plain (OpenSpec.upto fnExactFlatTermSpec)) fnExactFlatTermUptoCard
end Rows
end Go.Proofs.YtohpcnagkpikjaaDoor

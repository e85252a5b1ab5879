/-
  NARROWER THAN 'FOR EVERY INPUT', by the rows' own cells (each row's printed sentence says how): FnExactSortedAll: loops · FnExactSortedTerms: loops.
  DERIVED. THE GIVEN ROWS OF THIS SEAT. 4 by the template 'for every input the law returns true; each argument reads behind the call as it read before'; 0 by the template 'total and deterministic' (their statements: YtjhdkjacfclipaaTotals.lean).
  GIVEN WITH THE SEED: the statements are not yours to turn. If you find one false, say at which input.
  Laid BY PROGRAM, IN A SANDBOX (cutbox-rows.mjs): the forced cells as the released guide's own fill.sh prints them over the translation eb9dfafbf8058941… (all of the seat's roots in one cut). By AI agents, Wed Nov 11 2026. No macro, syntax, notation, axiom, sorry.
-/
import Derived.Test.YtjhdkjacfclipaaChecked
import GoSem.Claim
import GoSem.ClaimJoined
import GoSem.ClaimMapViews
import Derived.JoinedTies
import Derived.KernelRfl
namespace Go.Proofs.Ytjhdkjacfclipaa
/- THE CELL 'sum', in the pinned program and in every row, IS THE sha256 OF THE DUMP (.gsa) THAT YtjhdkjacfclipaaProg.lean LOADS. Nothing in Lean hashes anything: it is a label: what it is worth is what the hold of that sum in a sandbox is worth. -/
noncomputable def Try.pinned : Pinned := { name := "ytjhdkjacfclipaa", sum := "eb9dfafbf80589414034206c4fd9d6bb0723c133017fd59cf48413fe9caef268", checked := Try.checked }
namespace Rows
def none {H : Type} : Left H := { results := [], args := [] }

/-- 'laws.FnExactSortedAll': WHATEVER THE INPUT: true; the input reads as it did. -/
def fnExactSortedAllSpec : ChangeSpec := { name := "fnExactSortedAll", fn := fun _ => fun
  | [d] => { results := [.lit (.bool true)], args := [d] }
  | _ => none }
def fnExactSortedAllRow : OpenClaim := { program := "ytjhdkjacfclipaa", sum := "eb9dfafbf80589414034206c4fd9d6bb0723c133017fd59cf48413fe9caef268", func := "loop.example/g00469/laws.FnExactSortedAll", spec := "fnExactSortedAll", unfollowed := true, recurses := true, loops := true, apart := false }
def FnExactSortedAllSaid : Prop := fnExactSortedAllRow.holds Try.pinned (OpenSpec.ofChange fnExactSortedAllSpec)

/-- ITS FALSE NEIGHBOUR: 'it returns false'. Refute it at one input. -/
def fnExactSortedAllWrong : ChangeSpec := { name := "fnExactSortedAll", fn := fun _ => fun
  | [d] => { results := [.lit (.bool false)], args := [d] }
  | _ => none }
def FnExactSortedAllWrongFalsely : Prop := fnExactSortedAllRow.holds Try.pinned (OpenSpec.ofChange fnExactSortedAllWrong)

/-- 'laws.FnExactSortedTerms': WHATEVER THE INPUT: true; the input reads as it did. -/
def fnExactSortedTermsSpec : ChangeSpec := { name := "fnExactSortedTerms", fn := fun _ => fun
  | [d] => { results := [.lit (.bool true)], args := [d] }
  | _ => none }
def fnExactSortedTermsRow : OpenClaim := { program := "ytjhdkjacfclipaa", sum := "eb9dfafbf80589414034206c4fd9d6bb0723c133017fd59cf48413fe9caef268", func := "loop.example/g00469/laws.FnExactSortedTerms", spec := "fnExactSortedTerms", unfollowed := true, recurses := true, loops := true, apart := false }
def FnExactSortedTermsSaid : Prop := fnExactSortedTermsRow.holds Try.pinned (OpenSpec.ofChange fnExactSortedTermsSpec)

/-- ITS FALSE NEIGHBOUR: 'it returns false'. Refute it at one input. -/
def fnExactSortedTermsWrong : ChangeSpec := { name := "fnExactSortedTerms", fn := fun _ => fun
  | [d] => { results := [.lit (.bool false)], args := [d] }
  | _ => none }
def FnExactSortedTermsWrongFalsely : Prop := fnExactSortedTermsRow.holds Try.pinned (OpenSpec.ofChange fnExactSortedTermsWrong)

/-- 'laws.FnSorted': WHATEVER THE INPUT: true; the input reads as it did. -/
def fnSortedSpec : ChangeSpec := { name := "fnSorted", fn := fun _ => fun
  | [d] => { results := [.lit (.bool true)], args := [d] }
  | _ => none }
def fnSortedRow : OpenClaim := { program := "ytjhdkjacfclipaa", sum := "eb9dfafbf80589414034206c4fd9d6bb0723c133017fd59cf48413fe9caef268", func := "loop.example/g00469/laws.FnSorted", spec := "fnSorted", unfollowed := true, recurses := true, apart := false }
def FnSortedSaid : Prop := fnSortedRow.holds Try.pinned (OpenSpec.ofChange fnSortedSpec)

/-- ITS FALSE NEIGHBOUR: 'it returns false'. Refute it at one input. -/
def fnSortedWrong : ChangeSpec := { name := "fnSorted", fn := fun _ => fun
  | [d] => { results := [.lit (.bool false)], args := [d] }
  | _ => none }
def FnSortedWrongFalsely : Prop := fnSortedRow.holds Try.pinned (OpenSpec.ofChange fnSortedWrong)

/-- 'laws.FnListsTold': WHATEVER THE INPUT: true; the input reads as it did. -/
def fnListsToldSpec : ChangeSpec := { name := "fnListsTold", fn := fun _ => fun
  | [d] => { results := [.lit (.bool true)], args := [d] }
  | _ => none }
def fnListsToldRow : OpenClaim := { program := "ytjhdkjacfclipaa", sum := "eb9dfafbf80589414034206c4fd9d6bb0723c133017fd59cf48413fe9caef268", func := "loop.example/g00469/laws.FnListsTold", spec := "fnListsTold", unfollowed := true, recurses := true, apart := false }
def FnListsToldSaid : Prop := fnListsToldRow.holds Try.pinned (OpenSpec.ofChange fnListsToldSpec)

/-- ITS FALSE NEIGHBOUR: 'it returns false'. Refute it at one input. -/
def fnListsToldWrong : ChangeSpec := { name := "fnListsTold", fn := fun _ => fun
  | [d] => { results := [.lit (.bool false)], args := [d] }
  | _ => none }
def FnListsToldWrongFalsely : Prop := fnListsToldRow.holds Try.pinned (OpenSpec.ofChange fnListsToldWrong)

/- THE SECOND FORM. 'bulk': how many values and letters a reading holds, each counted each time it is reached (what is shared counts as often as it is met; a slice's spare places count too). A statement '..UptoSaid' is the law's where the arguments, and the package variables that the reading takes, are together of bulk at most 1048576: NARROWER than '..Said'. Prove '..Said' where nothing that the law and all that it calls make is longer than what came in: it says more and counts as full. Else prove '..UptoSaid'. A law counts once. -/
mutual
def uptoBulk {H : Type} : DataW H → Nat
  | .lit (.string bytes) => bytes.length + 1
  | .lit _ => 1
  | .nil => 1
  | .ptr d => uptoBulk d + 1
  | .slice elems spare => uptoBulkAll elems + uptoBulkAll spare + 1
  | .agg parts => uptoBulkAll parts + 1
  | .iface _ d => uptoBulk d + 1
  | .map entries => uptoBulkEntries entries + 1
  | .held _ => 1
def uptoBulkAll {H : Type} : List (DataW H) → Nat
  | [] => 0
  | d :: r => uptoBulk d + uptoBulkAll r
def uptoBulkEntries {H : Type} : List (Lit × DataW H) → Nat
  | [] => 0
  | x :: r => uptoBulkEntry x + uptoBulkEntries r
def uptoBulkEntry {H : Type} : Lit × DataW H → Nat
  | (.string bytes, d) => bytes.length + uptoBulk d + 1
  | (_, d) => uptoBulk d + 1
 end
def uptoSmall : (H : Type) → List (DataW H) → Bool := fun _ ds => decide (uptoBulkAll ds ≤ 1048576)
def OpenSpec.upto (s : _root_.Go.ChangeSpec) : _root_.Go.OpenSpec := { _root_.Go.OpenSpec.ofChange s with cond := some uptoSmall }

/-- 'laws.FnExactSortedAll', WHERE WHAT IT READS IS OF BULK AT MOST 1048576: true; the input reads as it did. -/
def fnExactSortedAllUptoRow : OpenClaim := { program := "ytjhdkjacfclipaa", sum := "eb9dfafbf80589414034206c4fd9d6bb0723c133017fd59cf48413fe9caef268", func := "loop.example/g00469/laws.FnExactSortedAll", spec := "fnExactSortedAll", unfollowed := true, recurses := true, loops := true, apart := false, narrowed := true }
def FnExactSortedAllUptoSaid : Prop := fnExactSortedAllUptoRow.holds Try.pinned (OpenSpec.upto fnExactSortedAllSpec)

/-- 'laws.FnExactSortedTerms', WHERE WHAT IT READS IS OF BULK AT MOST 1048576: true; the input reads as it did. -/
def fnExactSortedTermsUptoRow : OpenClaim := { program := "ytjhdkjacfclipaa", sum := "eb9dfafbf80589414034206c4fd9d6bb0723c133017fd59cf48413fe9caef268", func := "loop.example/g00469/laws.FnExactSortedTerms", spec := "fnExactSortedTerms", unfollowed := true, recurses := true, loops := true, apart := false, narrowed := true }
def FnExactSortedTermsUptoSaid : Prop := fnExactSortedTermsUptoRow.holds Try.pinned (OpenSpec.upto fnExactSortedTermsSpec)

/-- 'laws.FnSorted', WHERE WHAT IT READS IS OF BULK AT MOST 1048576: true; the input reads as it did. -/
def fnSortedUptoRow : OpenClaim := { program := "ytjhdkjacfclipaa", sum := "eb9dfafbf80589414034206c4fd9d6bb0723c133017fd59cf48413fe9caef268", func := "loop.example/g00469/laws.FnSorted", spec := "fnSorted", unfollowed := true, recurses := true, apart := false, narrowed := true }
def FnSortedUptoSaid : Prop := fnSortedUptoRow.holds Try.pinned (OpenSpec.upto fnSortedSpec)

/-- 'laws.FnListsTold', WHERE WHAT IT READS IS OF BULK AT MOST 1048576: true; the input reads as it did. -/
def fnListsToldUptoRow : OpenClaim := { program := "ytjhdkjacfclipaa", sum := "eb9dfafbf80589414034206c4fd9d6bb0723c133017fd59cf48413fe9caef268", func := "loop.example/g00469/laws.FnListsTold", spec := "fnListsTold", unfollowed := true, recurses := true, apart := false, narrowed := true }
def FnListsToldUptoSaid : Prop := fnListsToldUptoRow.holds Try.pinned (OpenSpec.upto fnListsToldSpec)

end Rows
end Go.Proofs.Ytjhdkjacfclipaa

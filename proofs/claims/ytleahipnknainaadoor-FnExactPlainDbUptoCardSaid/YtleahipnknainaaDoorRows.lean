/-
  NARROWER THAN 'FOR EVERY INPUT', by the rows' own cells (each row's printed sentence says how): FnExactPredsOf: loops, laid · FnExactGoalsIn: loops, laid · FnExactCallsIn: loops, laid · FnExactWarnApart: loops, laid · FnExactPlainDb: loops, laid · FnExactRecursive: loops, laid · FnExactCallsOf: loops, laid · FnExactFlatDb: loops, laid · FnExactReachedFrom: loops, laid · FnExactWarnMissing: loops, laid · FnExactMissingIn: loops, laid · FnExactUnreached: loops, laid.
  DERIVED. THE GIVEN ROWS OF THIS SEAT. 12 by the template 'for every input the law returns true; each argument reads behind the call as it read before'; 0 by the template 'total and deterministic' (their statements: YtleahipnknainaaDoorTotals.lean).
  GIVEN WITH THE SEED: the statements are not yours to turn. If you find one false, say at which input.
  Laid BY PROGRAM, IN A SANDBOX (cutbox-rows.mjs): the forced cells as the released guide's own fill.sh prints them over the translation 7cfc2b781878e903… (all of the seat's roots in one cut). By AI agents, Wed Nov 11 2026. No macro, syntax, notation, axiom, sorry.
-/
import Derived.Test.YtleahipnknainaaDoorChecked
import GoSem.Claim
import GoSem.ClaimJoined
import GoSem.ClaimMapViews
import Derived.JoinedTies
import Derived.KernelRfl
namespace Go.Proofs.YtleahipnknainaaDoor
/- THE CELL 'sum', in the pinned program and in every row, IS THE sha256 OF THE DUMP (.gsa) THAT YtleahipnknainaaDoorProg.lean LOADS. Nothing in Lean hashes anything: it is a label: what it is worth is what the hold of that sum in a sandbox is worth. -/
noncomputable def Tryd.pinned : Pinned := { name := "ytleahipnknainaadoor", sum := "7cfc2b781878e9032c9a8c296b763da7a84ef87835bc178145ec32690a100a19", checked := Tryd.checked }
namespace Rows
def none {H : Type} : Left H := { results := [], args := [] }

/- WHAT THE LISTED PACKAGE-LEVEL VARIABLES READ AS WHEN THE CALL BEGINS. Each datum BY PROGRAM (the guide's laid-datum.mjs) off the statement by which the dump's own 'gosem.cut.vars' lays the variable. In a bare row this is a premise. The card (YtleahipnknainaaDoorCards.lean) ties it to the program's text. -/
def laid_math_bits_deBruijn32tab {H : Type} : DataW H := .agg [.lit (.int .u8 0), .lit (.int .u8 1), .lit (.int .u8 28), .lit (.int .u8 2), .lit (.int .u8 29), .lit (.int .u8 14), .lit (.int .u8 24), .lit (.int .u8 3), .lit (.int .u8 30), .lit (.int .u8 22), .lit (.int .u8 20), .lit (.int .u8 15), .lit (.int .u8 25), .lit (.int .u8 17), .lit (.int .u8 4), .lit (.int .u8 8), .lit (.int .u8 31), .lit (.int .u8 27), .lit (.int .u8 13), .lit (.int .u8 23), .lit (.int .u8 21), .lit (.int .u8 19), .lit (.int .u8 16), .lit (.int .u8 7), .lit (.int .u8 26), .lit (.int .u8 12), .lit (.int .u8 18), .lit (.int .u8 6), .lit (.int .u8 11), .lit (.int .u8 5), .lit (.int .u8 10), .lit (.int .u8 9)]
def laid_math_bits_deBruijn64tab {H : Type} : DataW H := .agg [.lit (.int .u8 0), .lit (.int .u8 1), .lit (.int .u8 56), .lit (.int .u8 2), .lit (.int .u8 57), .lit (.int .u8 49), .lit (.int .u8 28), .lit (.int .u8 3), .lit (.int .u8 61), .lit (.int .u8 58), .lit (.int .u8 42), .lit (.int .u8 50), .lit (.int .u8 38), .lit (.int .u8 29), .lit (.int .u8 17), .lit (.int .u8 4), .lit (.int .u8 62), .lit (.int .u8 47), .lit (.int .u8 59), .lit (.int .u8 36), .lit (.int .u8 45), .lit (.int .u8 43), .lit (.int .u8 51), .lit (.int .u8 22), .lit (.int .u8 53), .lit (.int .u8 39), .lit (.int .u8 33), .lit (.int .u8 30), .lit (.int .u8 24), .lit (.int .u8 18), .lit (.int .u8 12), .lit (.int .u8 5), .lit (.int .u8 63), .lit (.int .u8 55), .lit (.int .u8 48), .lit (.int .u8 27), .lit (.int .u8 60), .lit (.int .u8 41), .lit (.int .u8 37), .lit (.int .u8 16), .lit (.int .u8 46), .lit (.int .u8 35), .lit (.int .u8 44), .lit (.int .u8 21), .lit (.int .u8 52), .lit (.int .u8 32), .lit (.int .u8 23), .lit (.int .u8 11), .lit (.int .u8 54), .lit (.int .u8 26), .lit (.int .u8 40), .lit (.int .u8 15), .lit (.int .u8 34), .lit (.int .u8 20), .lit (.int .u8 31), .lit (.int .u8 10), .lit (.int .u8 25), .lit (.int .u8 14), .lit (.int .u8 19), .lit (.int .u8 9), .lit (.int .u8 13), .lit (.int .u8 8), .lit (.int .u8 7), .lit (.int .u8 6)]
def laid_internal_strconv_uint64pow10 {H : Type} : DataW H := .agg [.lit (.int .u64 1), .lit (.int .u64 10), .lit (.int .u64 100), .lit (.int .u64 1000), .lit (.int .u64 10000), .lit (.int .u64 100000), .lit (.int .u64 1000000), .lit (.int .u64 10000000), .lit (.int .u64 100000000), .lit (.int .u64 1000000000), .lit (.int .u64 10000000000), .lit (.int .u64 100000000000), .lit (.int .u64 1000000000000), .lit (.int .u64 10000000000000), .lit (.int .u64 100000000000000), .lit (.int .u64 1000000000000000), .lit (.int .u64 10000000000000000), .lit (.int .u64 100000000000000000), .lit (.int .u64 1000000000000000000), .lit (.int .u64 10000000000000000000)]

/-- 'laws.FnExactPredsOf': WHATEVER THE INPUT: true; the input reads as it did. -/
def fnExactPredsOfSpec : ChangeSpec := { name := "fnExactPredsOf", fn := fun _ => fun
  | [d] => { results := [.lit (.bool true)], args := [d] }
  | _ => none }
def fnExactPredsOfRow : OpenClaim := { program := "ytleahipnknainaadoor", sum := "7cfc2b781878e9032c9a8c296b763da7a84ef87835bc178145ec32690a100a19", func := "loop.example/g00469/laws.FnExactPredsOf", spec := "fnExactPredsOf", recurses := true, named := ["internal/strconv.uint64pow10", "math/bits.deBruijn32tab", "math/bits.deBruijn64tab"], loops := true, apart := false, laid := [("math/bits.deBruijn32tab", laid_math_bits_deBruijn32tab), ("math/bits.deBruijn64tab", laid_math_bits_deBruijn64tab), ("internal/strconv.uint64pow10", laid_internal_strconv_uint64pow10)] }
def FnExactPredsOfSaid : Prop := fnExactPredsOfRow.holds Tryd.pinned (OpenSpec.ofChange fnExactPredsOfSpec)

/-- ITS FALSE NEIGHBOUR: 'it returns false'. Refute it at one input. -/
def fnExactPredsOfWrong : ChangeSpec := { name := "fnExactPredsOf", fn := fun _ => fun
  | [d] => { results := [.lit (.bool false)], args := [d] }
  | _ => none }
def FnExactPredsOfWrongFalsely : Prop := fnExactPredsOfRow.holds Tryd.pinned (OpenSpec.ofChange fnExactPredsOfWrong)

/-- 'laws.FnExactGoalsIn': WHATEVER THE INPUT: true; the input reads as it did. -/
def fnExactGoalsInSpec : ChangeSpec := { name := "fnExactGoalsIn", fn := fun _ => fun
  | [d] => { results := [.lit (.bool true)], args := [d] }
  | _ => none }
def fnExactGoalsInRow : OpenClaim := { program := "ytleahipnknainaadoor", sum := "7cfc2b781878e9032c9a8c296b763da7a84ef87835bc178145ec32690a100a19", func := "loop.example/g00469/laws.FnExactGoalsIn", spec := "fnExactGoalsIn", unfollowed := true, recurses := true, named := ["internal/strconv.uint64pow10", "math/bits.deBruijn32tab", "math/bits.deBruijn64tab"], loops := true, apart := false, laid := [("math/bits.deBruijn32tab", laid_math_bits_deBruijn32tab), ("math/bits.deBruijn64tab", laid_math_bits_deBruijn64tab), ("internal/strconv.uint64pow10", laid_internal_strconv_uint64pow10)] }
def FnExactGoalsInSaid : Prop := fnExactGoalsInRow.holds Tryd.pinned (OpenSpec.ofChange fnExactGoalsInSpec)

/-- ITS FALSE NEIGHBOUR: 'it returns false'. Refute it at one input. -/
def fnExactGoalsInWrong : ChangeSpec := { name := "fnExactGoalsIn", fn := fun _ => fun
  | [d] => { results := [.lit (.bool false)], args := [d] }
  | _ => none }
def FnExactGoalsInWrongFalsely : Prop := fnExactGoalsInRow.holds Tryd.pinned (OpenSpec.ofChange fnExactGoalsInWrong)

/-- 'laws.FnExactCallsIn': WHATEVER THE INPUT: true; the input reads as it did. -/
def fnExactCallsInSpec : ChangeSpec := { name := "fnExactCallsIn", fn := fun _ => fun
  | [d] => { results := [.lit (.bool true)], args := [d] }
  | _ => none }
def fnExactCallsInRow : OpenClaim := { program := "ytleahipnknainaadoor", sum := "7cfc2b781878e9032c9a8c296b763da7a84ef87835bc178145ec32690a100a19", func := "loop.example/g00469/laws.FnExactCallsIn", spec := "fnExactCallsIn", unfollowed := true, recurses := true, named := ["internal/strconv.uint64pow10", "math/bits.deBruijn32tab", "math/bits.deBruijn64tab"], loops := true, apart := false, laid := [("math/bits.deBruijn32tab", laid_math_bits_deBruijn32tab), ("math/bits.deBruijn64tab", laid_math_bits_deBruijn64tab), ("internal/strconv.uint64pow10", laid_internal_strconv_uint64pow10)] }
def FnExactCallsInSaid : Prop := fnExactCallsInRow.holds Tryd.pinned (OpenSpec.ofChange fnExactCallsInSpec)

/-- ITS FALSE NEIGHBOUR: 'it returns false'. Refute it at one input. -/
def fnExactCallsInWrong : ChangeSpec := { name := "fnExactCallsIn", fn := fun _ => fun
  | [d] => { results := [.lit (.bool false)], args := [d] }
  | _ => none }
def FnExactCallsInWrongFalsely : Prop := fnExactCallsInRow.holds Tryd.pinned (OpenSpec.ofChange fnExactCallsInWrong)

/-- 'laws.FnExactWarnApart': WHATEVER THE INPUT: true; the input reads as it did. -/
def fnExactWarnApartSpec : ChangeSpec := { name := "fnExactWarnApart", fn := fun _ => fun
  | [d] => { results := [.lit (.bool true)], args := [d] }
  | _ => none }
def fnExactWarnApartRow : OpenClaim := { program := "ytleahipnknainaadoor", sum := "7cfc2b781878e9032c9a8c296b763da7a84ef87835bc178145ec32690a100a19", func := "loop.example/g00469/laws.FnExactWarnApart", spec := "fnExactWarnApart", unfollowed := true, recurses := true, named := ["internal/strconv.uint64pow10", "math/bits.deBruijn32tab", "math/bits.deBruijn64tab"], loops := true, apart := false, laid := [("math/bits.deBruijn32tab", laid_math_bits_deBruijn32tab), ("math/bits.deBruijn64tab", laid_math_bits_deBruijn64tab), ("internal/strconv.uint64pow10", laid_internal_strconv_uint64pow10)] }
def FnExactWarnApartSaid : Prop := fnExactWarnApartRow.holds Tryd.pinned (OpenSpec.ofChange fnExactWarnApartSpec)

/-- ITS FALSE NEIGHBOUR: 'it returns false'. Refute it at one input. -/
def fnExactWarnApartWrong : ChangeSpec := { name := "fnExactWarnApart", fn := fun _ => fun
  | [d] => { results := [.lit (.bool false)], args := [d] }
  | _ => none }
def FnExactWarnApartWrongFalsely : Prop := fnExactWarnApartRow.holds Tryd.pinned (OpenSpec.ofChange fnExactWarnApartWrong)

/-- 'laws.FnExactPlainDb': WHATEVER THE INPUT: true; the input reads as it did. -/
def fnExactPlainDbSpec : ChangeSpec := { name := "fnExactPlainDb", fn := fun _ => fun
  | [d] => { results := [.lit (.bool true)], args := [d] }
  | _ => none }
def fnExactPlainDbRow : OpenClaim := { program := "ytleahipnknainaadoor", sum := "7cfc2b781878e9032c9a8c296b763da7a84ef87835bc178145ec32690a100a19", func := "loop.example/g00469/laws.FnExactPlainDb", spec := "fnExactPlainDb", unfollowed := true, recurses := true, named := ["internal/strconv.uint64pow10", "math/bits.deBruijn32tab", "math/bits.deBruijn64tab"], loops := true, apart := false, laid := [("math/bits.deBruijn32tab", laid_math_bits_deBruijn32tab), ("math/bits.deBruijn64tab", laid_math_bits_deBruijn64tab), ("internal/strconv.uint64pow10", laid_internal_strconv_uint64pow10)] }
def FnExactPlainDbSaid : Prop := fnExactPlainDbRow.holds Tryd.pinned (OpenSpec.ofChange fnExactPlainDbSpec)

/-- ITS FALSE NEIGHBOUR: 'it returns false'. Refute it at one input. -/
def fnExactPlainDbWrong : ChangeSpec := { name := "fnExactPlainDb", fn := fun _ => fun
  | [d] => { results := [.lit (.bool false)], args := [d] }
  | _ => none }
def FnExactPlainDbWrongFalsely : Prop := fnExactPlainDbRow.holds Tryd.pinned (OpenSpec.ofChange fnExactPlainDbWrong)

/-- 'laws.FnExactRecursive': WHATEVER THE INPUT: true; the input reads as it did. -/
def fnExactRecursiveSpec : ChangeSpec := { name := "fnExactRecursive", fn := fun _ => fun
  | [d1, d2] => { results := [.lit (.bool true)], args := [d1, d2] }
  | _ => none }
def fnExactRecursiveRow : OpenClaim := { program := "ytleahipnknainaadoor", sum := "7cfc2b781878e9032c9a8c296b763da7a84ef87835bc178145ec32690a100a19", func := "loop.example/g00469/laws.FnExactRecursive", spec := "fnExactRecursive", unfollowed := true, recurses := true, named := ["internal/strconv.uint64pow10", "math/bits.deBruijn32tab", "math/bits.deBruijn64tab"], loops := true, apart := false, laid := [("math/bits.deBruijn32tab", laid_math_bits_deBruijn32tab), ("math/bits.deBruijn64tab", laid_math_bits_deBruijn64tab), ("internal/strconv.uint64pow10", laid_internal_strconv_uint64pow10)] }
def FnExactRecursiveSaid : Prop := fnExactRecursiveRow.holds Tryd.pinned (OpenSpec.ofChange fnExactRecursiveSpec)

/-- ITS FALSE NEIGHBOUR: 'it returns false'. Refute it at one input. -/
def fnExactRecursiveWrong : ChangeSpec := { name := "fnExactRecursive", fn := fun _ => fun
  | [d1, d2] => { results := [.lit (.bool false)], args := [d1, d2] }
  | _ => none }
def FnExactRecursiveWrongFalsely : Prop := fnExactRecursiveRow.holds Tryd.pinned (OpenSpec.ofChange fnExactRecursiveWrong)

/-- 'laws.FnExactCallsOf': WHATEVER THE INPUT: true; the input reads as it did. -/
def fnExactCallsOfSpec : ChangeSpec := { name := "fnExactCallsOf", fn := fun _ => fun
  | [d1, d2] => { results := [.lit (.bool true)], args := [d1, d2] }
  | _ => none }
def fnExactCallsOfRow : OpenClaim := { program := "ytleahipnknainaadoor", sum := "7cfc2b781878e9032c9a8c296b763da7a84ef87835bc178145ec32690a100a19", func := "loop.example/g00469/laws.FnExactCallsOf", spec := "fnExactCallsOf", unfollowed := true, recurses := true, named := ["internal/strconv.uint64pow10", "math/bits.deBruijn32tab", "math/bits.deBruijn64tab"], loops := true, apart := false, laid := [("math/bits.deBruijn32tab", laid_math_bits_deBruijn32tab), ("math/bits.deBruijn64tab", laid_math_bits_deBruijn64tab), ("internal/strconv.uint64pow10", laid_internal_strconv_uint64pow10)] }
def FnExactCallsOfSaid : Prop := fnExactCallsOfRow.holds Tryd.pinned (OpenSpec.ofChange fnExactCallsOfSpec)

/-- ITS FALSE NEIGHBOUR: 'it returns false'. Refute it at one input. -/
def fnExactCallsOfWrong : ChangeSpec := { name := "fnExactCallsOf", fn := fun _ => fun
  | [d1, d2] => { results := [.lit (.bool false)], args := [d1, d2] }
  | _ => none }
def FnExactCallsOfWrongFalsely : Prop := fnExactCallsOfRow.holds Tryd.pinned (OpenSpec.ofChange fnExactCallsOfWrong)

/-- 'laws.FnExactFlatDb': WHATEVER THE INPUT: true; the input reads as it did. -/
def fnExactFlatDbSpec : ChangeSpec := { name := "fnExactFlatDb", fn := fun _ => fun
  | [d] => { results := [.lit (.bool true)], args := [d] }
  | _ => none }
def fnExactFlatDbRow : OpenClaim := { program := "ytleahipnknainaadoor", sum := "7cfc2b781878e9032c9a8c296b763da7a84ef87835bc178145ec32690a100a19", func := "loop.example/g00469/laws.FnExactFlatDb", spec := "fnExactFlatDb", unfollowed := true, recurses := true, named := ["internal/strconv.uint64pow10", "math/bits.deBruijn32tab", "math/bits.deBruijn64tab"], loops := true, apart := false, laid := [("math/bits.deBruijn32tab", laid_math_bits_deBruijn32tab), ("math/bits.deBruijn64tab", laid_math_bits_deBruijn64tab), ("internal/strconv.uint64pow10", laid_internal_strconv_uint64pow10)] }
def FnExactFlatDbSaid : Prop := fnExactFlatDbRow.holds Tryd.pinned (OpenSpec.ofChange fnExactFlatDbSpec)

/-- ITS FALSE NEIGHBOUR: 'it returns false'. Refute it at one input. -/
def fnExactFlatDbWrong : ChangeSpec := { name := "fnExactFlatDb", fn := fun _ => fun
  | [d] => { results := [.lit (.bool false)], args := [d] }
  | _ => none }
def FnExactFlatDbWrongFalsely : Prop := fnExactFlatDbRow.holds Tryd.pinned (OpenSpec.ofChange fnExactFlatDbWrong)

/-- 'laws.FnExactReachedFrom': WHATEVER THE INPUT: true; the input reads as it did. -/
def fnExactReachedFromSpec : ChangeSpec := { name := "fnExactReachedFrom", fn := fun _ => fun
  | [d1, d2] => { results := [.lit (.bool true)], args := [d1, d2] }
  | _ => none }
def fnExactReachedFromRow : OpenClaim := { program := "ytleahipnknainaadoor", sum := "7cfc2b781878e9032c9a8c296b763da7a84ef87835bc178145ec32690a100a19", func := "loop.example/g00469/laws.FnExactReachedFrom", spec := "fnExactReachedFrom", unfollowed := true, recurses := true, named := ["internal/strconv.uint64pow10", "math/bits.deBruijn32tab", "math/bits.deBruijn64tab"], loops := true, apart := false, laid := [("math/bits.deBruijn32tab", laid_math_bits_deBruijn32tab), ("math/bits.deBruijn64tab", laid_math_bits_deBruijn64tab), ("internal/strconv.uint64pow10", laid_internal_strconv_uint64pow10)] }
def FnExactReachedFromSaid : Prop := fnExactReachedFromRow.holds Tryd.pinned (OpenSpec.ofChange fnExactReachedFromSpec)

/-- ITS FALSE NEIGHBOUR: 'it returns false'. Refute it at one input. -/
def fnExactReachedFromWrong : ChangeSpec := { name := "fnExactReachedFrom", fn := fun _ => fun
  | [d1, d2] => { results := [.lit (.bool false)], args := [d1, d2] }
  | _ => none }
def FnExactReachedFromWrongFalsely : Prop := fnExactReachedFromRow.holds Tryd.pinned (OpenSpec.ofChange fnExactReachedFromWrong)

/-- 'laws.FnExactWarnMissing': WHATEVER THE INPUT: true; the input reads as it did. -/
def fnExactWarnMissingSpec : ChangeSpec := { name := "fnExactWarnMissing", fn := fun _ => fun
  | [d] => { results := [.lit (.bool true)], args := [d] }
  | _ => none }
def fnExactWarnMissingRow : OpenClaim := { program := "ytleahipnknainaadoor", sum := "7cfc2b781878e9032c9a8c296b763da7a84ef87835bc178145ec32690a100a19", func := "loop.example/g00469/laws.FnExactWarnMissing", spec := "fnExactWarnMissing", unfollowed := true, recurses := true, named := ["internal/strconv.uint64pow10", "math/bits.deBruijn32tab", "math/bits.deBruijn64tab"], loops := true, apart := false, laid := [("math/bits.deBruijn32tab", laid_math_bits_deBruijn32tab), ("math/bits.deBruijn64tab", laid_math_bits_deBruijn64tab), ("internal/strconv.uint64pow10", laid_internal_strconv_uint64pow10)] }
def FnExactWarnMissingSaid : Prop := fnExactWarnMissingRow.holds Tryd.pinned (OpenSpec.ofChange fnExactWarnMissingSpec)

/-- ITS FALSE NEIGHBOUR: 'it returns false'. Refute it at one input. -/
def fnExactWarnMissingWrong : ChangeSpec := { name := "fnExactWarnMissing", fn := fun _ => fun
  | [d] => { results := [.lit (.bool false)], args := [d] }
  | _ => none }
def FnExactWarnMissingWrongFalsely : Prop := fnExactWarnMissingRow.holds Tryd.pinned (OpenSpec.ofChange fnExactWarnMissingWrong)

/-- 'laws.FnExactMissingIn': WHATEVER THE INPUT: true; the input reads as it did. -/
def fnExactMissingInSpec : ChangeSpec := { name := "fnExactMissingIn", fn := fun _ => fun
  | [d] => { results := [.lit (.bool true)], args := [d] }
  | _ => none }
def fnExactMissingInRow : OpenClaim := { program := "ytleahipnknainaadoor", sum := "7cfc2b781878e9032c9a8c296b763da7a84ef87835bc178145ec32690a100a19", func := "loop.example/g00469/laws.FnExactMissingIn", spec := "fnExactMissingIn", unfollowed := true, recurses := true, named := ["internal/strconv.uint64pow10", "math/bits.deBruijn32tab", "math/bits.deBruijn64tab"], loops := true, apart := false, laid := [("math/bits.deBruijn32tab", laid_math_bits_deBruijn32tab), ("math/bits.deBruijn64tab", laid_math_bits_deBruijn64tab), ("internal/strconv.uint64pow10", laid_internal_strconv_uint64pow10)] }
def FnExactMissingInSaid : Prop := fnExactMissingInRow.holds Tryd.pinned (OpenSpec.ofChange fnExactMissingInSpec)

/-- ITS FALSE NEIGHBOUR: 'it returns false'. Refute it at one input. -/
def fnExactMissingInWrong : ChangeSpec := { name := "fnExactMissingIn", fn := fun _ => fun
  | [d] => { results := [.lit (.bool false)], args := [d] }
  | _ => none }
def FnExactMissingInWrongFalsely : Prop := fnExactMissingInRow.holds Tryd.pinned (OpenSpec.ofChange fnExactMissingInWrong)

/-- 'laws.FnExactUnreached': WHATEVER THE INPUT: true; the input reads as it did. -/
def fnExactUnreachedSpec : ChangeSpec := { name := "fnExactUnreached", fn := fun _ => fun
  | [d1, d2] => { results := [.lit (.bool true)], args := [d1, d2] }
  | _ => none }
def fnExactUnreachedRow : OpenClaim := { program := "ytleahipnknainaadoor", sum := "7cfc2b781878e9032c9a8c296b763da7a84ef87835bc178145ec32690a100a19", func := "loop.example/g00469/laws.FnExactUnreached", spec := "fnExactUnreached", unfollowed := true, recurses := true, named := ["internal/strconv.uint64pow10", "math/bits.deBruijn32tab", "math/bits.deBruijn64tab"], loops := true, apart := false, laid := [("math/bits.deBruijn32tab", laid_math_bits_deBruijn32tab), ("math/bits.deBruijn64tab", laid_math_bits_deBruijn64tab), ("internal/strconv.uint64pow10", laid_internal_strconv_uint64pow10)] }
def FnExactUnreachedSaid : Prop := fnExactUnreachedRow.holds Tryd.pinned (OpenSpec.ofChange fnExactUnreachedSpec)

/-- ITS FALSE NEIGHBOUR: 'it returns false'. Refute it at one input. -/
def fnExactUnreachedWrong : ChangeSpec := { name := "fnExactUnreached", fn := fun _ => fun
  | [d1, d2] => { results := [.lit (.bool false)], args := [d1, d2] }
  | _ => none }
def FnExactUnreachedWrongFalsely : Prop := fnExactUnreachedRow.holds Tryd.pinned (OpenSpec.ofChange fnExactUnreachedWrong)

/- THE SECOND FORM. 'bulk': how many values and letters a reading holds, each counted each time it is reached (what is shared counts as often as it is met; a slice's spare places count too). A statement '..UptoSaid' is the law's where the arguments, and the package variables that the reading takes, are together of bulk at most 1048576: NARROWER than '..Said'. Prove '..Said' where nothing that the law and all that it calls make is longer than what came in: it says more and counts as full. Else prove '..UptoSaid'. A law counts once. -/
mutual
def uptoBulk {H : Type} : DataW H → Nat
  | .lit (.string bytes) => bytes.length + 1
  | .lit _ => 1
  | .nil => 1
  | .ptr d => uptoBulk d + 1
  | .slice elems spare => uptoBulkAll elems + uptoBulkAll spare + 1
  | .agg parts => uptoBulkAll parts + 1
  | .iface _ d => uptoBulk d + 1
  | .map entries => uptoBulkEntries entries + 1
  | .held _ => 1
def uptoBulkAll {H : Type} : List (DataW H) → Nat
  | [] => 0
  | d :: r => uptoBulk d + uptoBulkAll r
def uptoBulkEntries {H : Type} : List (Lit × DataW H) → Nat
  | [] => 0
  | x :: r => uptoBulkEntry x + uptoBulkEntries r
def uptoBulkEntry {H : Type} : Lit × DataW H → Nat
  | (.string bytes, d) => bytes.length + uptoBulk d + 1
  | (_, d) => uptoBulk d + 1
 end
def uptoSmall : (H : Type) → List (DataW H) → Bool := fun _ ds => decide (uptoBulkAll ds ≤ 1048576)
def OpenSpec.upto (s : _root_.Go.ChangeSpec) : _root_.Go.OpenSpec := { _root_.Go.OpenSpec.ofChange s with cond := some uptoSmall }

/-- 'laws.FnExactPredsOf', WHERE WHAT IT READS IS OF BULK AT MOST 1048576: true; the input reads as it did. -/
def fnExactPredsOfUptoRow : OpenClaim := { program := "ytleahipnknainaadoor", sum := "7cfc2b781878e9032c9a8c296b763da7a84ef87835bc178145ec32690a100a19", func := "loop.example/g00469/laws.FnExactPredsOf", spec := "fnExactPredsOf", recurses := true, named := ["internal/strconv.uint64pow10", "math/bits.deBruijn32tab", "math/bits.deBruijn64tab"], loops := true, apart := false, laid := [("math/bits.deBruijn32tab", laid_math_bits_deBruijn32tab), ("math/bits.deBruijn64tab", laid_math_bits_deBruijn64tab), ("internal/strconv.uint64pow10", laid_internal_strconv_uint64pow10)], narrowed := true }
def FnExactPredsOfUptoSaid : Prop := fnExactPredsOfUptoRow.holds Tryd.pinned (OpenSpec.upto fnExactPredsOfSpec)

/-- 'laws.FnExactGoalsIn', WHERE WHAT IT READS IS OF BULK AT MOST 1048576: true; the input reads as it did. -/
def fnExactGoalsInUptoRow : OpenClaim := { program := "ytleahipnknainaadoor", sum := "7cfc2b781878e9032c9a8c296b763da7a84ef87835bc178145ec32690a100a19", func := "loop.example/g00469/laws.FnExactGoalsIn", spec := "fnExactGoalsIn", unfollowed := true, recurses := true, named := ["internal/strconv.uint64pow10", "math/bits.deBruijn32tab", "math/bits.deBruijn64tab"], loops := true, apart := false, laid := [("math/bits.deBruijn32tab", laid_math_bits_deBruijn32tab), ("math/bits.deBruijn64tab", laid_math_bits_deBruijn64tab), ("internal/strconv.uint64pow10", laid_internal_strconv_uint64pow10)], narrowed := true }
def FnExactGoalsInUptoSaid : Prop := fnExactGoalsInUptoRow.holds Tryd.pinned (OpenSpec.upto fnExactGoalsInSpec)

/-- 'laws.FnExactCallsIn', WHERE WHAT IT READS IS OF BULK AT MOST 1048576: true; the input reads as it did. -/
def fnExactCallsInUptoRow : OpenClaim := { program := "ytleahipnknainaadoor", sum := "7cfc2b781878e9032c9a8c296b763da7a84ef87835bc178145ec32690a100a19", func := "loop.example/g00469/laws.FnExactCallsIn", spec := "fnExactCallsIn", unfollowed := true, recurses := true, named := ["internal/strconv.uint64pow10", "math/bits.deBruijn32tab", "math/bits.deBruijn64tab"], loops := true, apart := false, laid := [("math/bits.deBruijn32tab", laid_math_bits_deBruijn32tab), ("math/bits.deBruijn64tab", laid_math_bits_deBruijn64tab), ("internal/strconv.uint64pow10", laid_internal_strconv_uint64pow10)], narrowed := true }
def FnExactCallsInUptoSaid : Prop := fnExactCallsInUptoRow.holds Tryd.pinned (OpenSpec.upto fnExactCallsInSpec)

/-- 'laws.FnExactWarnApart', WHERE WHAT IT READS IS OF BULK AT MOST 1048576: true; the input reads as it did. -/
def fnExactWarnApartUptoRow : OpenClaim := { program := "ytleahipnknainaadoor", sum := "7cfc2b781878e9032c9a8c296b763da7a84ef87835bc178145ec32690a100a19", func := "loop.example/g00469/laws.FnExactWarnApart", spec := "fnExactWarnApart", unfollowed := true, recurses := true, named := ["internal/strconv.uint64pow10", "math/bits.deBruijn32tab", "math/bits.deBruijn64tab"], loops := true, apart := false, laid := [("math/bits.deBruijn32tab", laid_math_bits_deBruijn32tab), ("math/bits.deBruijn64tab", laid_math_bits_deBruijn64tab), ("internal/strconv.uint64pow10", laid_internal_strconv_uint64pow10)], narrowed := true }
def FnExactWarnApartUptoSaid : Prop := fnExactWarnApartUptoRow.holds Tryd.pinned (OpenSpec.upto fnExactWarnApartSpec)

/-- 'laws.FnExactPlainDb', WHERE WHAT IT READS IS OF BULK AT MOST 1048576: true; the input reads as it did. -/
def fnExactPlainDbUptoRow : OpenClaim := { program := "ytleahipnknainaadoor", sum := "7cfc2b781878e9032c9a8c296b763da7a84ef87835bc178145ec32690a100a19", func := "loop.example/g00469/laws.FnExactPlainDb", spec := "fnExactPlainDb", unfollowed := true, recurses := true, named := ["internal/strconv.uint64pow10", "math/bits.deBruijn32tab", "math/bits.deBruijn64tab"], loops := true, apart := false, laid := [("math/bits.deBruijn32tab", laid_math_bits_deBruijn32tab), ("math/bits.deBruijn64tab", laid_math_bits_deBruijn64tab), ("internal/strconv.uint64pow10", laid_internal_strconv_uint64pow10)], narrowed := true }
def FnExactPlainDbUptoSaid : Prop := fnExactPlainDbUptoRow.holds Tryd.pinned (OpenSpec.upto fnExactPlainDbSpec)

/-- 'laws.FnExactRecursive', WHERE WHAT IT READS IS OF BULK AT MOST 1048576: true; the input reads as it did. -/
def fnExactRecursiveUptoRow : OpenClaim := { program := "ytleahipnknainaadoor", sum := "7cfc2b781878e9032c9a8c296b763da7a84ef87835bc178145ec32690a100a19", func := "loop.example/g00469/laws.FnExactRecursive", spec := "fnExactRecursive", unfollowed := true, recurses := true, named := ["internal/strconv.uint64pow10", "math/bits.deBruijn32tab", "math/bits.deBruijn64tab"], loops := true, apart := false, laid := [("math/bits.deBruijn32tab", laid_math_bits_deBruijn32tab), ("math/bits.deBruijn64tab", laid_math_bits_deBruijn64tab), ("internal/strconv.uint64pow10", laid_internal_strconv_uint64pow10)], narrowed := true }
def FnExactRecursiveUptoSaid : Prop := fnExactRecursiveUptoRow.holds Tryd.pinned (OpenSpec.upto fnExactRecursiveSpec)

/-- 'laws.FnExactCallsOf', WHERE WHAT IT READS IS OF BULK AT MOST 1048576: true; the input reads as it did. -/
def fnExactCallsOfUptoRow : OpenClaim := { program := "ytleahipnknainaadoor", sum := "7cfc2b781878e9032c9a8c296b763da7a84ef87835bc178145ec32690a100a19", func := "loop.example/g00469/laws.FnExactCallsOf", spec := "fnExactCallsOf", unfollowed := true, recurses := true, named := ["internal/strconv.uint64pow10", "math/bits.deBruijn32tab", "math/bits.deBruijn64tab"], loops := true, apart := false, laid := [("math/bits.deBruijn32tab", laid_math_bits_deBruijn32tab), ("math/bits.deBruijn64tab", laid_math_bits_deBruijn64tab), ("internal/strconv.uint64pow10", laid_internal_strconv_uint64pow10)], narrowed := true }
def FnExactCallsOfUptoSaid : Prop := fnExactCallsOfUptoRow.holds Tryd.pinned (OpenSpec.upto fnExactCallsOfSpec)

/-- 'laws.FnExactFlatDb', WHERE WHAT IT READS IS OF BULK AT MOST 1048576: true; the input reads as it did. -/
def fnExactFlatDbUptoRow : OpenClaim := { program := "ytleahipnknainaadoor", sum := "7cfc2b781878e9032c9a8c296b763da7a84ef87835bc178145ec32690a100a19", func := "loop.example/g00469/laws.FnExactFlatDb", spec := "fnExactFlatDb", unfollowed := true, recurses := true, named := ["internal/strconv.uint64pow10", "math/bits.deBruijn32tab", "math/bits.deBruijn64tab"], loops := true, apart := false, laid := [("math/bits.deBruijn32tab", laid_math_bits_deBruijn32tab), ("math/bits.deBruijn64tab", laid_math_bits_deBruijn64tab), ("internal/strconv.uint64pow10", laid_internal_strconv_uint64pow10)], narrowed := true }
def FnExactFlatDbUptoSaid : Prop := fnExactFlatDbUptoRow.holds Tryd.pinned (OpenSpec.upto fnExactFlatDbSpec)

/-- 'laws.FnExactReachedFrom', WHERE WHAT IT READS IS OF BULK AT MOST 1048576: true; the input reads as it did. -/
def fnExactReachedFromUptoRow : OpenClaim := { program := "ytleahipnknainaadoor", sum := "7cfc2b781878e9032c9a8c296b763da7a84ef87835bc178145ec32690a100a19", func := "loop.example/g00469/laws.FnExactReachedFrom", spec := "fnExactReachedFrom", unfollowed := true, recurses := true, named := ["internal/strconv.uint64pow10", "math/bits.deBruijn32tab", "math/bits.deBruijn64tab"], loops := true, apart := false, laid := [("math/bits.deBruijn32tab", laid_math_bits_deBruijn32tab), ("math/bits.deBruijn64tab", laid_math_bits_deBruijn64tab), ("internal/strconv.uint64pow10", laid_internal_strconv_uint64pow10)], narrowed := true }
def FnExactReachedFromUptoSaid : Prop := fnExactReachedFromUptoRow.holds Tryd.pinned (OpenSpec.upto fnExactReachedFromSpec)

/-- 'laws.FnExactWarnMissing', WHERE WHAT IT READS IS OF BULK AT MOST 1048576: true; the input reads as it did. -/
def fnExactWarnMissingUptoRow : OpenClaim := { program := "ytleahipnknainaadoor", sum := "7cfc2b781878e9032c9a8c296b763da7a84ef87835bc178145ec32690a100a19", func := "loop.example/g00469/laws.FnExactWarnMissing", spec := "fnExactWarnMissing", unfollowed := true, recurses := true, named := ["internal/strconv.uint64pow10", "math/bits.deBruijn32tab", "math/bits.deBruijn64tab"], loops := true, apart := false, laid := [("math/bits.deBruijn32tab", laid_math_bits_deBruijn32tab), ("math/bits.deBruijn64tab", laid_math_bits_deBruijn64tab), ("internal/strconv.uint64pow10", laid_internal_strconv_uint64pow10)], narrowed := true }
def FnExactWarnMissingUptoSaid : Prop := fnExactWarnMissingUptoRow.holds Tryd.pinned (OpenSpec.upto fnExactWarnMissingSpec)

/-- 'laws.FnExactMissingIn', WHERE WHAT IT READS IS OF BULK AT MOST 1048576: true; the input reads as it did. -/
def fnExactMissingInUptoRow : OpenClaim := { program := "ytleahipnknainaadoor", sum := "7cfc2b781878e9032c9a8c296b763da7a84ef87835bc178145ec32690a100a19", func := "loop.example/g00469/laws.FnExactMissingIn", spec := "fnExactMissingIn", unfollowed := true, recurses := true, named := ["internal/strconv.uint64pow10", "math/bits.deBruijn32tab", "math/bits.deBruijn64tab"], loops := true, apart := false, laid := [("math/bits.deBruijn32tab", laid_math_bits_deBruijn32tab), ("math/bits.deBruijn64tab", laid_math_bits_deBruijn64tab), ("internal/strconv.uint64pow10", laid_internal_strconv_uint64pow10)], narrowed := true }
def FnExactMissingInUptoSaid : Prop := fnExactMissingInUptoRow.holds Tryd.pinned (OpenSpec.upto fnExactMissingInSpec)

/-- 'laws.FnExactUnreached', WHERE WHAT IT READS IS OF BULK AT MOST 1048576: true; the input reads as it did. -/
def fnExactUnreachedUptoRow : OpenClaim := { program := "ytleahipnknainaadoor", sum := "7cfc2b781878e9032c9a8c296b763da7a84ef87835bc178145ec32690a100a19", func := "loop.example/g00469/laws.FnExactUnreached", spec := "fnExactUnreached", unfollowed := true, recurses := true, named := ["internal/strconv.uint64pow10", "math/bits.deBruijn32tab", "math/bits.deBruijn64tab"], loops := true, apart := false, laid := [("math/bits.deBruijn32tab", laid_math_bits_deBruijn32tab), ("math/bits.deBruijn64tab", laid_math_bits_deBruijn64tab), ("internal/strconv.uint64pow10", laid_internal_strconv_uint64pow10)], narrowed := true }
def FnExactUnreachedUptoSaid : Prop := fnExactUnreachedUptoRow.holds Tryd.pinned (OpenSpec.upto fnExactUnreachedSpec)

end Rows
end Go.Proofs.YtleahipnknainaaDoor

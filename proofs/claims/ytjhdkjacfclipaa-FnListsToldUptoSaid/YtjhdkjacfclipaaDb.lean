/- Clauses of a program, and its open predicates. -/
import Derived.Test.YtjhdkjacfclipaaEng25
import Derived.Test.YtjhdkjacfclipaaOk
set_option linter.unusedVariables false
namespace Go.Eng
structure Dbt where
  cs : List Cl
  op : List ByteArray
abbrev LD : Lay := .st [.one, .one]
def injD : Dbt → D
  | ⟨cs, op⟩ => .agg [.one, .one] [.sl LC (injCs cs), .sl .one (strs op)]
def bulkC (c : Cl) : Int := bulk c.h + bulk c.b + c.f.size
def bulkCs : List Cl → Int
  | [] => 0
  | c :: r => bulkC c + bulkCs r
def bulkSs : List ByteArray → Int
  | [] => 0
  | s :: r => s.size + bulkSs r
def bulkD (d : Dbt) : Int := d.cs.length + bulkCs d.cs + d.op.length + bulkSs d.op
def hasS : List ByteArray → ByteArray → Bool
  | [], _ => false
  | x :: r, s => decide (x = s) || hasS r s
def onceL (xs : List ByteArray) (s : ByteArray) : List ByteArray := if hasS xs s then xs else xs ++ [s]
def predsF : List Cl → List ByteArray → List ByteArray
  | [], out => out
  | c :: r, out => predsF r (onceL out (predS c.h))
def idxS : List ByteArray → ByteArray → Nat → Int
  | [], _, _ => -1
  | x :: r, s, j => if x = s then j else idxS r s (j + 1)
end Go.Eng

/- What no entry reaches. -/
import Derived.Test.YtjhdkjacfclipaaCs
import Derived.Test.YtjhdkjacfclipaaEng28
set_option linter.unusedVariables false
set_option linter.unusedSimpArgs false
namespace Go.Eng
def appR (d : Dbt) : List ByteArray → List ByteArray → List ByteArray
  | [], out => out
  | e :: r, out => appR d r (out ++ reachedFrom d e)
def addR (d : Dbt) : List ByteArray → List ByteArray → List ByteArray
  | [], out => out
  | e :: r, out => addR d r (addAll out (reachedFrom d e))
def wR (d : Dbt) : List ByteArray → Nat
  | [] => 0
  | e :: r => (reachedFrom d e).length + wR d r
def unreached (d : Dbt) (es : List ByteArray) : List ByteArray := (predsF d.cs []).filter fun x => !(hasS es x || es.any fun e => hasS (reachedFrom d e) x)
end Go.Eng

/- The engine: append to nil. -/
set_option linter.unusedVariables false
set_option linter.unusedSimpArgs false
namespace Go.Eng
section
variable {P : Program} {C : Cx} {n : Nat} {f : Fr} {L : Hp} {Q : AQ} {ops : Array Oper} {rest : List Oper} {dst : Option Tmp} {ty : TypeId} {pos : String} {after : Array Edge}
end
end Go.Eng

/- Warnings and numbers as texts, as either side writes them. -/
import Derived.Test.YtjhdkjacfclipaaOk
import Derived.Test.YtjhdkjacfclipaaEng25
set_option linter.unusedVariables false
namespace Go.Eng
structure Wn where
  k : Int
  a : Int
  t : ByteArray
abbrev LW : Lay := .st [.one, .one, .one]
def injW : Wn → D
  | ⟨k, a, t⟩ => .agg [.one, .one, .one] [.c (.int .i64 k), .c (.int .i64 a), .c (.string t)]
def wword (k : Int) : ByteArray := if k = 1 then ⟨#[115, 105, 110, 103, 108, 101]⟩ else if k = 2 then ⟨#[97, 112, 97, 114, 116]⟩ else if k = 3 then ⟨#[109, 105, 115, 115, 105, 110, 103]⟩ else if k = 4 then ⟨#[116, 119, 105, 99, 101]⟩ else ⟨#[63]⟩
def sp1 : ByteArray := ⟨#[32]⟩
def wsay (w : Wn) : ByteArray := dec (max w.a 0) ++ sp1 ++ wword w.k
def wshow (w : Wn) : ByteArray := if w.t = ⟨#[]⟩ then wsay w else wsay w ++ (sp1 ++ w.t)
/-- The digits that are still to come, ahead of those that stand. -/
def toCome (n : Int) : List UInt8 := if n = 0 then [] else Lib.decDigits n.toNat
end Go.Eng

/- Closed facts of the types and functions that are met. -/
import Derived.Test.YtleahipnknainaaDoorEng25
import Derived.Test.YtleahipnknainaaDoorProg
import Derived.KernelRfl
set_option linter.unusedSimpArgs false
namespace Go.Proofs.YtleahipnknainaaDoor
open Go.Eng

theorem tz45 : tyZero Tryd.prog 45 = some (some (.agg #[.int .i64 0, .string ⟨#[]⟩, .int .i64 0, .slice none 0 0])) := by kernel_rfl
theorem tz5 : tyZero Tryd.prog 5 = some (some (.int .u8 0)) := by kernel_rfl
theorem tz9 : tyZero Tryd.prog 9 = some (some (.string ⟨#[]⟩)) := by kernel_rfl
theorem cl100 : Callable Tryd.prog 100 := Callable_of Tryd.func100 (by kernel_rfl) (by kernel_rfl)
theorem cl101 : Callable Tryd.prog 101 := Callable_of Tryd.func101 (by kernel_rfl) (by kernel_rfl)
theorem cl102 : Callable Tryd.prog 102 := Callable_of Tryd.func102 (by kernel_rfl) (by kernel_rfl)
theorem cl103 : Callable Tryd.prog 103 := Callable_of Tryd.func103 (by kernel_rfl) (by kernel_rfl)
theorem cl104 : Callable Tryd.prog 104 := Callable_of Tryd.func104 (by kernel_rfl) (by kernel_rfl)
theorem cl105 : Callable Tryd.prog 105 := Callable_of Tryd.func105 (by kernel_rfl) (by kernel_rfl)
theorem cl110 : Callable Tryd.prog 110 := Callable_of Tryd.func110 (by kernel_rfl) (by kernel_rfl)
theorem cl119 : Callable Tryd.prog 119 := Callable_of Tryd.func119 (by kernel_rfl) (by kernel_rfl)
theorem cl120 : Callable Tryd.prog 120 := Callable_of Tryd.func120 (by kernel_rfl) (by kernel_rfl)
theorem cl121 : Callable Tryd.prog 121 := Callable_of Tryd.func121 (by kernel_rfl) (by kernel_rfl)
theorem cl122 : Callable Tryd.prog 122 := Callable_of Tryd.func122 (by kernel_rfl) (by kernel_rfl)
theorem cl123 : Callable Tryd.prog 123 := Callable_of Tryd.func123 (by kernel_rfl) (by kernel_rfl)
theorem cl128 : Callable Tryd.prog 128 := Callable_of Tryd.func128 (by kernel_rfl) (by kernel_rfl)
theorem cl129 : Callable Tryd.prog 129 := Callable_of Tryd.func129 (by kernel_rfl) (by kernel_rfl)
theorem cl24 : Callable Tryd.prog 24 := Callable_of Tryd.func24 (by kernel_rfl) (by kernel_rfl)
theorem cl25 : Callable Tryd.prog 25 := Callable_of Tryd.func25 (by kernel_rfl) (by kernel_rfl)
theorem cl26 : Callable Tryd.prog 26 := Callable_of Tryd.func26 (by kernel_rfl) (by kernel_rfl)
theorem cl27 : Callable Tryd.prog 27 := Callable_of Tryd.func27 (by kernel_rfl) (by kernel_rfl)
theorem cl28 : Callable Tryd.prog 28 := Callable_of Tryd.func28 (by kernel_rfl) (by kernel_rfl)
theorem cl29 : Callable Tryd.prog 29 := Callable_of Tryd.func29 (by kernel_rfl) (by kernel_rfl)
theorem cl30 : Callable Tryd.prog 30 := Callable_of Tryd.func30 (by kernel_rfl) (by kernel_rfl)
theorem cl31 : Callable Tryd.prog 31 := Callable_of Tryd.func31 (by kernel_rfl) (by kernel_rfl)
theorem cl32 : Callable Tryd.prog 32 := Callable_of Tryd.func32 (by kernel_rfl) (by kernel_rfl)
theorem cl60 : Callable Tryd.prog 60 := Callable_of Tryd.func60 (by kernel_rfl) (by kernel_rfl)
theorem cl63 : Callable Tryd.prog 63 := Callable_of Tryd.func63 (by kernel_rfl) (by kernel_rfl)
theorem cl66 : Callable Tryd.prog 66 := Callable_of Tryd.func66 (by kernel_rfl) (by kernel_rfl)
theorem cl67 : Callable Tryd.prog 67 := Callable_of Tryd.func67 (by kernel_rfl) (by kernel_rfl)
theorem cl68 : Callable Tryd.prog 68 := Callable_of Tryd.func68 (by kernel_rfl) (by kernel_rfl)
theorem cl69 : Callable Tryd.prog 69 := Callable_of Tryd.func69 (by kernel_rfl) (by kernel_rfl)
theorem cl70 : Callable Tryd.prog 70 := Callable_of Tryd.func70 (by kernel_rfl) (by kernel_rfl)
theorem cl71 : Callable Tryd.prog 71 := Callable_of Tryd.func71 (by kernel_rfl) (by kernel_rfl)
theorem cl72 : Callable Tryd.prog 72 := Callable_of Tryd.func72 (by kernel_rfl) (by kernel_rfl)
theorem cl73 : Callable Tryd.prog 73 := Callable_of Tryd.func73 (by kernel_rfl) (by kernel_rfl)
theorem cl74 : Callable Tryd.prog 74 := Callable_of Tryd.func74 (by kernel_rfl) (by kernel_rfl)
theorem cl85 : Callable Tryd.prog 85 := Callable_of Tryd.func85 (by kernel_rfl) (by kernel_rfl)
theorem cl94 : Callable Tryd.prog 94 := Callable_of Tryd.func94 (by kernel_rfl) (by kernel_rfl)
theorem cl96 : Callable Tryd.prog 96 := Callable_of Tryd.func96 (by kernel_rfl) (by kernel_rfl)
theorem cl98 : Callable Tryd.prog 98 := Callable_of Tryd.func98 (by kernel_rfl) (by kernel_rfl)
theorem cl99 : Callable Tryd.prog 99 := Callable_of Tryd.func99 (by kernel_rfl) (by kernel_rfl)
theorem fa39_0 : tyField Tryd.prog 39 0 = some (0, true) := by kernel_rfl
theorem fa39_1 : tyField Tryd.prog 39 1 = some (1, true) := by kernel_rfl
theorem fa39_2 : tyField Tryd.prog 39 2 = some (2, true) := by kernel_rfl
theorem fa39_3 : tyField Tryd.prog 39 3 = some (3, true) := by kernel_rfl
theorem fa45_0 : tyField Tryd.prog 45 0 = some (0, true) := by kernel_rfl
theorem fa45_1 : tyField Tryd.prog 45 1 = some (1, true) := by kernel_rfl
theorem fa45_2 : tyField Tryd.prog 45 2 = some (2, true) := by kernel_rfl
theorem fa45_3 : tyField Tryd.prog 45 3 = some (3, true) := by kernel_rfl
theorem follows : Tryd.prog.follows .mixedOrders = true := by kernel_rfl
theorem ta3 : tyAgg Tryd.prog 3 = some false := by kernel_rfl
theorem ta37 : tyAgg Tryd.prog 37 = some false := by kernel_rfl
theorem ta39 : tyAgg Tryd.prog 39 = some true := by kernel_rfl
theorem ta41 : tyAgg Tryd.prog 41 = some false := by kernel_rfl
theorem ta45 : tyAgg Tryd.prog 45 = some true := by kernel_rfl
theorem ta9 : tyAgg Tryd.prog 9 = some false := by kernel_rfl
theorem tb45 : tyBytes Tryd.prog 45 = some 56 := by kernel_rfl
theorem tbool4 : tyBool Tryd.prog 4 = true := by kernel_rfl
theorem te23 : tyElem Tryd.prog 23 = some 9 := by kernel_rfl
theorem te37 : tyElem Tryd.prog 37 = some 39 := by kernel_rfl
theorem te41 : tyElem Tryd.prog 41 = some 45 := by kernel_rfl
theorem te97 : tyElem Tryd.prog 97 = some 5 := by kernel_rfl
theorem tint3 : tyInt Tryd.prog 3 = some .i64 := by kernel_rfl
theorem tint5 : tyInt Tryd.prog 5 = some .u8 := by kernel_rfl
theorem ts3 : tySize Tryd.prog 3 = some 1 := by kernel_rfl
theorem ts37 : tySize Tryd.prog 37 = some 1 := by kernel_rfl
theorem ts39 : tySize Tryd.prog 39 = some 4 := by kernel_rfl
theorem ts41 : tySize Tryd.prog 41 = some 1 := by kernel_rfl
theorem ts45 : tySize Tryd.prog 45 = some 4 := by kernel_rfl
theorem ts5 : tySize Tryd.prog 5 = some 1 := by kernel_rfl
theorem ts9 : tySize Tryd.prog 9 = some 1 := by kernel_rfl
theorem tstr9 : tyStr Tryd.prog 9 = true := by kernel_rfl
theorem tund3 : (Tryd.prog.underlying 3).isSome = true := by kernel_rfl
theorem tund5 : (Tryd.prog.underlying 5).isSome = true := by kernel_rfl
theorem zo45 : ZeroOf Tryd.prog 45 (Lay.st [.one, .one, .one, .one]) (.d (.agg [.one, .one, .one, .one] [.c (.int .i64 0), .c (.string ⟨#[]⟩), .c (.int .i64 0), .c (.slice none 0 0)])) := ⟨_, tz45, rfl, fun _ _ _ => VC_cells rfl⟩
end Go.Proofs.YtleahipnknainaaDoor

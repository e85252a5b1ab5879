/- Closed facts of the types and functions that are met. -/
import Derived.Test.YtleahipnknainaaDoorEng25
import Derived.Test.YtleahipnknainaaDoorProg
import Derived.KernelRfl
set_option linter.unusedSimpArgs false
namespace Go.Proofs.YtleahipnknainaaDoor
open Go.Eng

theorem tz23 : tyZero Tryd.prog 23 = some (some (.slice none 0 0)) := by kernel_rfl
theorem tz30 : tyZero Tryd.prog 30 = some (some (.agg #[.slice none 0 0, .slice none 0 0])) := by kernel_rfl
theorem tz45 : tyZero Tryd.prog 45 = some (some (.agg #[.int .i64 0, .string ⟨#[]⟩, .int .i64 0, .slice none 0 0])) := by kernel_rfl
theorem tz5 : tyZero Tryd.prog 5 = some (some (.int .u8 0)) := by kernel_rfl
theorem tz68 : tyZero Tryd.prog 68 = some (some (.agg #[.int .i64 0, .string ⟨#[]⟩, .int .i64 0, .slice none 0 0, .int .i64 0, .string ⟨#[]⟩, .int .i64 0, .slice none 0 0, .string ⟨#[]⟩])) := by kernel_rfl
theorem tz84 : tyZero Tryd.prog 84 = some (some (.agg #[.int .i64 0, .int .i64 0, .string ⟨#[]⟩])) := by kernel_rfl
theorem tz9 : tyZero Tryd.prog 9 = some (some (.string ⟨#[]⟩)) := by kernel_rfl
theorem cl100 : Callable Tryd.prog 100 := Callable_of Tryd.func100 (by kernel_rfl) (by kernel_rfl)
theorem cl103 : Callable Tryd.prog 103 := Callable_of Tryd.func103 (by kernel_rfl) (by kernel_rfl)
theorem cl104 : Callable Tryd.prog 104 := Callable_of Tryd.func104 (by kernel_rfl) (by kernel_rfl)
theorem cl105 : Callable Tryd.prog 105 := Callable_of Tryd.func105 (by kernel_rfl) (by kernel_rfl)
theorem cl106 : Callable Tryd.prog 106 := Callable_of Tryd.func106 (by kernel_rfl) (by kernel_rfl)
theorem cl110 : Callable Tryd.prog 110 := Callable_of Tryd.func110 (by kernel_rfl) (by kernel_rfl)
theorem cl111 : Callable Tryd.prog 111 := Callable_of Tryd.func111 (by kernel_rfl) (by kernel_rfl)
theorem cl112 : Callable Tryd.prog 112 := Callable_of Tryd.func112 (by kernel_rfl) (by kernel_rfl)
theorem cl118 : Callable Tryd.prog 118 := Callable_of Tryd.func118 (by kernel_rfl) (by kernel_rfl)
theorem cl119 : Callable Tryd.prog 119 := Callable_of Tryd.func119 (by kernel_rfl) (by kernel_rfl)
theorem cl120 : Callable Tryd.prog 120 := Callable_of Tryd.func120 (by kernel_rfl) (by kernel_rfl)
theorem cl121 : Callable Tryd.prog 121 := Callable_of Tryd.func121 (by kernel_rfl) (by kernel_rfl)
theorem cl122 : Callable Tryd.prog 122 := Callable_of Tryd.func122 (by kernel_rfl) (by kernel_rfl)
theorem cl123 : Callable Tryd.prog 123 := Callable_of Tryd.func123 (by kernel_rfl) (by kernel_rfl)
theorem cl125 : Callable Tryd.prog 125 := Callable_of Tryd.func125 (by kernel_rfl) (by kernel_rfl)
theorem cl128 : Callable Tryd.prog 128 := Callable_of Tryd.func128 (by kernel_rfl) (by kernel_rfl)
theorem cl129 : Callable Tryd.prog 129 := Callable_of Tryd.func129 (by kernel_rfl) (by kernel_rfl)
theorem cl15 : Callable Tryd.prog 15 := Callable_of Tryd.func15 (by kernel_rfl) (by kernel_rfl)
theorem cl17 : Callable Tryd.prog 17 := Callable_of Tryd.func17 (by kernel_rfl) (by kernel_rfl)
theorem cl19 : Callable Tryd.prog 19 := Callable_of Tryd.func19 (by kernel_rfl) (by kernel_rfl)
theorem cl20 : Callable Tryd.prog 20 := Callable_of Tryd.func20 (by kernel_rfl) (by kernel_rfl)
theorem cl21 : Callable Tryd.prog 21 := Callable_of Tryd.func21 (by kernel_rfl) (by kernel_rfl)
theorem cl22 : Callable Tryd.prog 22 := Callable_of Tryd.func22 (by kernel_rfl) (by kernel_rfl)
theorem cl24 : Callable Tryd.prog 24 := Callable_of Tryd.func24 (by kernel_rfl) (by kernel_rfl)
theorem cl26 : Callable Tryd.prog 26 := Callable_of Tryd.func26 (by kernel_rfl) (by kernel_rfl)
theorem cl28 : Callable Tryd.prog 28 := Callable_of Tryd.func28 (by kernel_rfl) (by kernel_rfl)
theorem cl29 : Callable Tryd.prog 29 := Callable_of Tryd.func29 (by kernel_rfl) (by kernel_rfl)
theorem cl31 : Callable Tryd.prog 31 := Callable_of Tryd.func31 (by kernel_rfl) (by kernel_rfl)
theorem cl33 : Callable Tryd.prog 33 := Callable_of Tryd.func33 (by kernel_rfl) (by kernel_rfl)
theorem cl34 : Callable Tryd.prog 34 := Callable_of Tryd.func34 (by kernel_rfl) (by kernel_rfl)
theorem cl37 : Callable Tryd.prog 37 := Callable_of Tryd.func37 (by kernel_rfl) (by kernel_rfl)
theorem cl38 : Callable Tryd.prog 38 := Callable_of Tryd.func38 (by kernel_rfl) (by kernel_rfl)
theorem cl39 : Callable Tryd.prog 39 := Callable_of Tryd.func39 (by kernel_rfl) (by kernel_rfl)
theorem cl50 : Callable Tryd.prog 50 := Callable_of Tryd.func50 (by kernel_rfl) (by kernel_rfl)
theorem cl51 : Callable Tryd.prog 51 := Callable_of Tryd.func51 (by kernel_rfl) (by kernel_rfl)
theorem cl54 : Callable Tryd.prog 54 := Callable_of Tryd.func54 (by kernel_rfl) (by kernel_rfl)
theorem cl56 : Callable Tryd.prog 56 := Callable_of Tryd.func56 (by kernel_rfl) (by kernel_rfl)
theorem cl58 : Callable Tryd.prog 58 := Callable_of Tryd.func58 (by kernel_rfl) (by kernel_rfl)
theorem cl59 : Callable Tryd.prog 59 := Callable_of Tryd.func59 (by kernel_rfl) (by kernel_rfl)
theorem cl60 : Callable Tryd.prog 60 := Callable_of Tryd.func60 (by kernel_rfl) (by kernel_rfl)
theorem cl61 : Callable Tryd.prog 61 := Callable_of Tryd.func61 (by kernel_rfl) (by kernel_rfl)
theorem cl62 : Callable Tryd.prog 62 := Callable_of Tryd.func62 (by kernel_rfl) (by kernel_rfl)
theorem cl63 : Callable Tryd.prog 63 := Callable_of Tryd.func63 (by kernel_rfl) (by kernel_rfl)
theorem cl64 : Callable Tryd.prog 64 := Callable_of Tryd.func64 (by kernel_rfl) (by kernel_rfl)
theorem cl65 : Callable Tryd.prog 65 := Callable_of Tryd.func65 (by kernel_rfl) (by kernel_rfl)
theorem cl66 : Callable Tryd.prog 66 := Callable_of Tryd.func66 (by kernel_rfl) (by kernel_rfl)
theorem cl67 : Callable Tryd.prog 67 := Callable_of Tryd.func67 (by kernel_rfl) (by kernel_rfl)
theorem cl69 : Callable Tryd.prog 69 := Callable_of Tryd.func69 (by kernel_rfl) (by kernel_rfl)
theorem cl70 : Callable Tryd.prog 70 := Callable_of Tryd.func70 (by kernel_rfl) (by kernel_rfl)
theorem cl71 : Callable Tryd.prog 71 := Callable_of Tryd.func71 (by kernel_rfl) (by kernel_rfl)
theorem cl72 : Callable Tryd.prog 72 := Callable_of Tryd.func72 (by kernel_rfl) (by kernel_rfl)
theorem cl74 : Callable Tryd.prog 74 := Callable_of Tryd.func74 (by kernel_rfl) (by kernel_rfl)
theorem cl75 : Callable Tryd.prog 75 := Callable_of Tryd.func75 (by kernel_rfl) (by kernel_rfl)
theorem cl76 : Callable Tryd.prog 76 := Callable_of Tryd.func76 (by kernel_rfl) (by kernel_rfl)
theorem cl77 : Callable Tryd.prog 77 := Callable_of Tryd.func77 (by kernel_rfl) (by kernel_rfl)
theorem cl78 : Callable Tryd.prog 78 := Callable_of Tryd.func78 (by kernel_rfl) (by kernel_rfl)
theorem cl79 : Callable Tryd.prog 79 := Callable_of Tryd.func79 (by kernel_rfl) (by kernel_rfl)
theorem cl81 : Callable Tryd.prog 81 := Callable_of Tryd.func81 (by kernel_rfl) (by kernel_rfl)
theorem cl85 : Callable Tryd.prog 85 := Callable_of Tryd.func85 (by kernel_rfl) (by kernel_rfl)
theorem cl86 : Callable Tryd.prog 86 := Callable_of Tryd.func86 (by kernel_rfl) (by kernel_rfl)
theorem cl91 : Callable Tryd.prog 91 := Callable_of Tryd.func91 (by kernel_rfl) (by kernel_rfl)
theorem cl92 : Callable Tryd.prog 92 := Callable_of Tryd.func92 (by kernel_rfl) (by kernel_rfl)
theorem cl93 : Callable Tryd.prog 93 := Callable_of Tryd.func93 (by kernel_rfl) (by kernel_rfl)
theorem cl94 : Callable Tryd.prog 94 := Callable_of Tryd.func94 (by kernel_rfl) (by kernel_rfl)
theorem cl95 : Callable Tryd.prog 95 := Callable_of Tryd.func95 (by kernel_rfl) (by kernel_rfl)
theorem cl96 : Callable Tryd.prog 96 := Callable_of Tryd.func96 (by kernel_rfl) (by kernel_rfl)
theorem cl97 : Callable Tryd.prog 97 := Callable_of Tryd.func97 (by kernel_rfl) (by kernel_rfl)
theorem cl99 : Callable Tryd.prog 99 := Callable_of Tryd.func99 (by kernel_rfl) (by kernel_rfl)
theorem fa25_0 : tyField Tryd.prog 25 0 = some (0, true) := by kernel_rfl
theorem fa25_1 : tyField Tryd.prog 25 1 = some (1, true) := by kernel_rfl
theorem fa30_0 : tyField Tryd.prog 30 0 = some (0, true) := by kernel_rfl
theorem fa30_1 : tyField Tryd.prog 30 1 = some (1, true) := by kernel_rfl
theorem fa39_0 : tyField Tryd.prog 39 0 = some (0, true) := by kernel_rfl
theorem fa39_1 : tyField Tryd.prog 39 1 = some (1, true) := by kernel_rfl
theorem fa39_2 : tyField Tryd.prog 39 2 = some (2, true) := by kernel_rfl
theorem fa39_3 : tyField Tryd.prog 39 3 = some (3, true) := by kernel_rfl
theorem fa45_0 : tyField Tryd.prog 45 0 = some (0, true) := by kernel_rfl
theorem fa45_1 : tyField Tryd.prog 45 1 = some (1, true) := by kernel_rfl
theorem fa45_2 : tyField Tryd.prog 45 2 = some (2, true) := by kernel_rfl
theorem fa45_3 : tyField Tryd.prog 45 3 = some (3, true) := by kernel_rfl
theorem fa68_0 : tyField Tryd.prog 68 0 = some (0, true) := by kernel_rfl
theorem fa68_1 : tyField Tryd.prog 68 1 = some (4, true) := by kernel_rfl
theorem fa68_2 : tyField Tryd.prog 68 2 = some (8, true) := by kernel_rfl
theorem fa84_0 : tyField Tryd.prog 84 0 = some (0, true) := by kernel_rfl
theorem fa84_1 : tyField Tryd.prog 84 1 = some (1, true) := by kernel_rfl
theorem fa84_2 : tyField Tryd.prog 84 2 = some (2, true) := by kernel_rfl
theorem fa94_0 : tyField Tryd.prog 94 0 = some (0, true) := by kernel_rfl
theorem fa94_1 : tyField Tryd.prog 94 1 = some (4, true) := by kernel_rfl
theorem fa94_2 : tyField Tryd.prog 94 2 = some (8, true) := by kernel_rfl
theorem follows : Tryd.prog.follows .mixedOrders = true := by kernel_rfl
theorem ta22 : tyAgg Tryd.prog 22 = some false := by kernel_rfl
theorem ta23 : tyAgg Tryd.prog 23 = some false := by kernel_rfl
theorem ta25 : tyAgg Tryd.prog 25 = some true := by kernel_rfl
theorem ta28 : tyAgg Tryd.prog 28 = some false := by kernel_rfl
theorem ta3 : tyAgg Tryd.prog 3 = some false := by kernel_rfl
theorem ta30 : tyAgg Tryd.prog 30 = some true := by kernel_rfl
theorem ta37 : tyAgg Tryd.prog 37 = some false := by kernel_rfl
theorem ta39 : tyAgg Tryd.prog 39 = some true := by kernel_rfl
theorem ta41 : tyAgg Tryd.prog 41 = some false := by kernel_rfl
theorem ta45 : tyAgg Tryd.prog 45 = some true := by kernel_rfl
theorem ta68 : tyAgg Tryd.prog 68 = some true := by kernel_rfl
theorem ta84 : tyAgg Tryd.prog 84 = some true := by kernel_rfl
theorem ta9 : tyAgg Tryd.prog 9 = some false := by kernel_rfl
theorem ta94 : tyAgg Tryd.prog 94 = some true := by kernel_rfl
theorem tb45 : tyBytes Tryd.prog 45 = some 56 := by kernel_rfl
theorem tb68 : tyBytes Tryd.prog 68 = some 128 := by kernel_rfl
theorem tb84 : tyBytes Tryd.prog 84 = some 32 := by kernel_rfl
theorem tb9 : tyBytes Tryd.prog 9 = some 16 := by kernel_rfl
theorem te22 : tyElem Tryd.prog 22 = some 94 := by kernel_rfl
theorem te23 : tyElem Tryd.prog 23 = some 9 := by kernel_rfl
theorem te28 : tyElem Tryd.prog 28 = some 68 := by kernel_rfl
theorem te37 : tyElem Tryd.prog 37 = some 39 := by kernel_rfl
theorem te41 : tyElem Tryd.prog 41 = some 45 := by kernel_rfl
theorem te53 : tyElem Tryd.prog 53 = some 84 := by kernel_rfl
theorem te97 : tyElem Tryd.prog 97 = some 5 := by kernel_rfl
theorem tint3 : tyInt Tryd.prog 3 = some .i64 := by kernel_rfl
theorem tint5 : tyInt Tryd.prog 5 = some .u8 := by kernel_rfl
theorem tpl84 : tyPlaces Tryd.prog 84 = some (layPlaces 0 [.one, .one, .one]) := by kernel_rfl
theorem ts22 : tySize Tryd.prog 22 = some 1 := by kernel_rfl
theorem ts23 : tySize Tryd.prog 23 = some 1 := by kernel_rfl
theorem ts25 : tySize Tryd.prog 25 = some 2 := by kernel_rfl
theorem ts28 : tySize Tryd.prog 28 = some 1 := by kernel_rfl
theorem ts3 : tySize Tryd.prog 3 = some 1 := by kernel_rfl
theorem ts30 : tySize Tryd.prog 30 = some 2 := by kernel_rfl
theorem ts37 : tySize Tryd.prog 37 = some 1 := by kernel_rfl
theorem ts39 : tySize Tryd.prog 39 = some 4 := by kernel_rfl
theorem ts41 : tySize Tryd.prog 41 = some 1 := by kernel_rfl
theorem ts45 : tySize Tryd.prog 45 = some 4 := by kernel_rfl
theorem ts5 : tySize Tryd.prog 5 = some 1 := by kernel_rfl
theorem ts68 : tySize Tryd.prog 68 = some 9 := by kernel_rfl
theorem ts84 : tySize Tryd.prog 84 = some 3 := by kernel_rfl
theorem ts9 : tySize Tryd.prog 9 = some 1 := by kernel_rfl
theorem ts94 : tySize Tryd.prog 94 = some 9 := by kernel_rfl
theorem tstr9 : tyStr Tryd.prog 9 = true := by kernel_rfl
theorem tund3 : (Tryd.prog.underlying 3).isSome = true := by kernel_rfl
theorem tund5 : (Tryd.prog.underlying 5).isSome = true := by kernel_rfl
theorem zo23 : ZeroOf Tryd.prog 23 .one (.d (.c (.slice none 0 0))) := ⟨_, tz23, rfl, fun _ _ _ => VC_cells rfl⟩
theorem zo30 : ZeroOf Tryd.prog 30 (Lay.st [.one, .one]) (.d (.agg [.one, .one] [.c (.slice none 0 0), .c (.slice none 0 0)])) := ⟨_, tz30, rfl, fun _ _ _ => VC_cells rfl⟩
theorem zo45 : ZeroOf Tryd.prog 45 (Lay.st [.one, .one, .one, .one]) (.d (.agg [.one, .one, .one, .one] [.c (.int .i64 0), .c (.string ⟨#[]⟩), .c (.int .i64 0), .c (.slice none 0 0)])) := ⟨_, tz45, rfl, fun _ _ _ => VC_cells rfl⟩
theorem zo68 : ZeroOf Tryd.prog 68 (Lay.st [(Lay.st [.one, .one, .one, .one]), (Lay.st [.one, .one, .one, .one]), .one]) (.d (.agg [(Lay.st [.one, .one, .one, .one]), (Lay.st [.one, .one, .one, .one]), .one] [.agg [.one, .one, .one, .one] [.c (.int .i64 0), .c (.string ⟨#[]⟩), .c (.int .i64 0), .c (.slice none 0 0)], .agg [.one, .one, .one, .one] [.c (.int .i64 0), .c (.string ⟨#[]⟩), .c (.int .i64 0), .c (.slice none 0 0)], .c (.string ⟨#[]⟩)])) := ⟨_, tz68, rfl, fun _ _ _ => VC_cells rfl⟩
theorem zo9 : ZeroOf Tryd.prog 9 .one (.d (.c (.string ⟨#[]⟩))) := ⟨_, tz9, rfl, fun _ _ _ => VC_cells rfl⟩
end Go.Proofs.YtleahipnknainaaDoor

/- Closed facts of the types and functions that are met. -/
import Derived.Test.YtohpcnagkpikjaaEng23
import Derived.Test.YtohpcnagkpikjaaProg
import Derived.KernelRfl
set_option linter.unusedSimpArgs false
namespace Go.Proofs.Ytohpcnagkpikjaa
open Go.Eng

theorem tz3 : tyZero Try.prog 3 = some (some (.int .i64 0)) := by kernel_rfl
theorem tz32 : tyZero Try.prog 32 = some (some (.agg #[.int .i64 0, .string ⟨#[]⟩, .int .i64 0, .slice none 0 0])) := by kernel_rfl
theorem tz34 : tyZero Try.prog 34 = some (some (.agg #[.int .i64 0, .string ⟨#[]⟩, .int .i64 0, .slice none 0 0, .int .i64 0, .string ⟨#[]⟩, .int .i64 0, .slice none 0 0, .string ⟨#[]⟩])) := by kernel_rfl
theorem tz5 : tyZero Try.prog 5 = some (some (.int .u8 0)) := by kernel_rfl
theorem cl10 : Callable Try.prog 10 := Callable_of Try.func10 (by kernel_rfl) (by kernel_rfl)
theorem cl11 : Callable Try.prog 11 := Callable_of Try.func11 (by kernel_rfl) (by kernel_rfl)
theorem cl12 : Callable Try.prog 12 := Callable_of Try.func12 (by kernel_rfl) (by kernel_rfl)
theorem cl13 : Callable Try.prog 13 := Callable_of Try.func13 (by kernel_rfl) (by kernel_rfl)
theorem cl14 : Callable Try.prog 14 := Callable_of Try.func14 (by kernel_rfl) (by kernel_rfl)
theorem cl15 : Callable Try.prog 15 := Callable_of Try.func15 (by kernel_rfl) (by kernel_rfl)
theorem cl17 : Callable Try.prog 17 := Callable_of Try.func17 (by kernel_rfl) (by kernel_rfl)
theorem cl19 : Callable Try.prog 19 := Callable_of Try.func19 (by kernel_rfl) (by kernel_rfl)
theorem cl20 : Callable Try.prog 20 := Callable_of Try.func20 (by kernel_rfl) (by kernel_rfl)
theorem cl28 : Callable Try.prog 28 := Callable_of Try.func28 (by kernel_rfl) (by kernel_rfl)
theorem cl29 : Callable Try.prog 29 := Callable_of Try.func29 (by kernel_rfl) (by kernel_rfl)
theorem cl30 : Callable Try.prog 30 := Callable_of Try.func30 (by kernel_rfl) (by kernel_rfl)
theorem cl31 : Callable Try.prog 31 := Callable_of Try.func31 (by kernel_rfl) (by kernel_rfl)
theorem cl32 : Callable Try.prog 32 := Callable_of Try.func32 (by kernel_rfl) (by kernel_rfl)
theorem cl33 : Callable Try.prog 33 := Callable_of Try.func33 (by kernel_rfl) (by kernel_rfl)
theorem cl34 : Callable Try.prog 34 := Callable_of Try.func34 (by kernel_rfl) (by kernel_rfl)
theorem cl35 : Callable Try.prog 35 := Callable_of Try.func35 (by kernel_rfl) (by kernel_rfl)
theorem cl36 : Callable Try.prog 36 := Callable_of Try.func36 (by kernel_rfl) (by kernel_rfl)
theorem cl37 : Callable Try.prog 37 := Callable_of Try.func37 (by kernel_rfl) (by kernel_rfl)
theorem cl39 : Callable Try.prog 39 := Callable_of Try.func39 (by kernel_rfl) (by kernel_rfl)
theorem cl41 : Callable Try.prog 41 := Callable_of Try.func41 (by kernel_rfl) (by kernel_rfl)
theorem cl44 : Callable Try.prog 44 := Callable_of Try.func44 (by kernel_rfl) (by kernel_rfl)
theorem cl54 : Callable Try.prog 54 := Callable_of Try.func54 (by kernel_rfl) (by kernel_rfl)
theorem cl55 : Callable Try.prog 55 := Callable_of Try.func55 (by kernel_rfl) (by kernel_rfl)
theorem cl56 : Callable Try.prog 56 := Callable_of Try.func56 (by kernel_rfl) (by kernel_rfl)
theorem cl57 : Callable Try.prog 57 := Callable_of Try.func57 (by kernel_rfl) (by kernel_rfl)
theorem cl58 : Callable Try.prog 58 := Callable_of Try.func58 (by kernel_rfl) (by kernel_rfl)
theorem cl6 : Callable Try.prog 6 := Callable_of Try.func6 (by kernel_rfl) (by kernel_rfl)
theorem cl60 : Callable Try.prog 60 := Callable_of Try.func60 (by kernel_rfl) (by kernel_rfl)
theorem cl61 : Callable Try.prog 61 := Callable_of Try.func61 (by kernel_rfl) (by kernel_rfl)
theorem cl7 : Callable Try.prog 7 := Callable_of Try.func7 (by kernel_rfl) (by kernel_rfl)
theorem cl76 : Callable Try.prog 76 := Callable_of Try.func76 (by kernel_rfl) (by kernel_rfl)
theorem cl77 : Callable Try.prog 77 := Callable_of Try.func77 (by kernel_rfl) (by kernel_rfl)
theorem cl8 : Callable Try.prog 8 := Callable_of Try.func8 (by kernel_rfl) (by kernel_rfl)
theorem cl9 : Callable Try.prog 9 := Callable_of Try.func9 (by kernel_rfl) (by kernel_rfl)
theorem fa24_0 : tyField Try.prog 24 0 = some (0, true) := by kernel_rfl
theorem fa24_1 : tyField Try.prog 24 1 = some (1, true) := by kernel_rfl
theorem fa24_2 : tyField Try.prog 24 2 = some (2, true) := by kernel_rfl
theorem fa24_3 : tyField Try.prog 24 3 = some (3, true) := by kernel_rfl
theorem fa26_0 : tyField Try.prog 26 0 = some (0, true) := by kernel_rfl
theorem fa26_1 : tyField Try.prog 26 1 = some (4, true) := by kernel_rfl
theorem fa26_2 : tyField Try.prog 26 2 = some (8, true) := by kernel_rfl
theorem fa32_0 : tyField Try.prog 32 0 = some (0, true) := by kernel_rfl
theorem fa32_1 : tyField Try.prog 32 1 = some (1, true) := by kernel_rfl
theorem fa32_2 : tyField Try.prog 32 2 = some (2, true) := by kernel_rfl
theorem fa32_3 : tyField Try.prog 32 3 = some (3, true) := by kernel_rfl
theorem fa34_0 : tyField Try.prog 34 0 = some (0, true) := by kernel_rfl
theorem fa34_1 : tyField Try.prog 34 1 = some (4, true) := by kernel_rfl
theorem fa34_2 : tyField Try.prog 34 2 = some (8, true) := by kernel_rfl
theorem follows : Try.prog.follows .mixedOrders = true := by kernel_rfl
theorem ta22 : tyAgg Try.prog 22 = some false := by kernel_rfl
theorem ta24 : tyAgg Try.prog 24 = some true := by kernel_rfl
theorem ta26 : tyAgg Try.prog 26 = some true := by kernel_rfl
theorem ta3 : tyAgg Try.prog 3 = some false := by kernel_rfl
theorem ta30 : tyAgg Try.prog 30 = some false := by kernel_rfl
theorem ta32 : tyAgg Try.prog 32 = some true := by kernel_rfl
theorem ta34 : tyAgg Try.prog 34 = some true := by kernel_rfl
theorem ta9 : tyAgg Try.prog 9 = some false := by kernel_rfl
theorem tb3 : tyBytes Try.prog 3 = some 8 := by kernel_rfl
theorem tb32 : tyBytes Try.prog 32 = some 56 := by kernel_rfl
theorem te22 : tyElem Try.prog 22 = some 24 := by kernel_rfl
theorem te28 : tyElem Try.prog 28 = some 3 := by kernel_rfl
theorem te30 : tyElem Try.prog 30 = some 32 := by kernel_rfl
theorem te47 : tyElem Try.prog 47 = some 5 := by kernel_rfl
theorem tint5 : tyInt Try.prog 5 = some .u8 := by kernel_rfl
theorem tpl32 : tyPlaces Try.prog 32 = some (layPlaces 0 [.one, .one, .one, .one]) := by kernel_rfl
theorem ts22 : tySize Try.prog 22 = some 1 := by kernel_rfl
theorem ts24 : tySize Try.prog 24 = some 4 := by kernel_rfl
theorem ts26 : tySize Try.prog 26 = some 9 := by kernel_rfl
theorem ts3 : tySize Try.prog 3 = some 1 := by kernel_rfl
theorem ts30 : tySize Try.prog 30 = some 1 := by kernel_rfl
theorem ts32 : tySize Try.prog 32 = some 4 := by kernel_rfl
theorem ts34 : tySize Try.prog 34 = some 9 := by kernel_rfl
theorem ts5 : tySize Try.prog 5 = some 1 := by kernel_rfl
theorem ts9 : tySize Try.prog 9 = some 1 := by kernel_rfl
theorem tstr9 : tyStr Try.prog 9 = true := by kernel_rfl
theorem tund3 : (Try.prog.underlying 3).isSome = true := by kernel_rfl
theorem zo32 : ZeroOf Try.prog 32 (Lay.st [.one, .one, .one, .one]) (.d (.agg [.one, .one, .one, .one] [.c (.int .i64 0), .c (.string ⟨#[]⟩), .c (.int .i64 0), .c (.slice none 0 0)])) := ⟨_, tz32, rfl, fun _ _ _ => VC_cells rfl⟩
theorem zo34 : ZeroOf Try.prog 34 (Lay.st [(Lay.st [.one, .one, .one, .one]), (Lay.st [.one, .one, .one, .one]), .one]) (.d (.agg [(Lay.st [.one, .one, .one, .one]), (Lay.st [.one, .one, .one, .one]), .one] [.agg [.one, .one, .one, .one] [.c (.int .i64 0), .c (.string ⟨#[]⟩), .c (.int .i64 0), .c (.slice none 0 0)], .agg [.one, .one, .one, .one] [.c (.int .i64 0), .c (.string ⟨#[]⟩), .c (.int .i64 0), .c (.slice none 0 0)], .c (.string ⟨#[]⟩)])) := ⟨_, tz34, rfl, fun _ _ _ => VC_cells rfl⟩
end Go.Proofs.Ytohpcnagkpikjaa

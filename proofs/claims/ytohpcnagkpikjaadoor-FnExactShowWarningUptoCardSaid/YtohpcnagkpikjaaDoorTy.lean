/- Closed facts of the types and functions that are met. -/
import Derived.Test.YtohpcnagkpikjaaDoorEng25
import Derived.Test.YtohpcnagkpikjaaDoorProg
import Derived.KernelRfl
set_option linter.unusedSimpArgs false
namespace Go.Proofs.YtohpcnagkpikjaaDoor
open Go.Eng

theorem tz26 : tyZero Tryd.prog 26 = some (some (.agg #[.int .i64 0, .int .i64 0, .string ⟨#[]⟩])) := by kernel_rfl
theorem tz36 : tyZero Tryd.prog 36 = some (some (.agg #[.int .i64 0, .string ⟨#[]⟩, .int .i64 0, .slice none 0 0])) := by kernel_rfl
theorem tz5 : tyZero Tryd.prog 5 = some (some (.int .u8 0)) := by kernel_rfl
theorem tz9 : tyZero Tryd.prog 9 = some (some (.string ⟨#[]⟩)) := by kernel_rfl
theorem cl10 : Callable Tryd.prog 10 := Callable_of Tryd.func10 (by kernel_rfl) (by kernel_rfl)
theorem cl11 : Callable Tryd.prog 11 := Callable_of Tryd.func11 (by kernel_rfl) (by kernel_rfl)
theorem cl12 : Callable Tryd.prog 12 := Callable_of Tryd.func12 (by kernel_rfl) (by kernel_rfl)
theorem cl13 : Callable Tryd.prog 13 := Callable_of Tryd.func13 (by kernel_rfl) (by kernel_rfl)
theorem cl14 : Callable Tryd.prog 14 := Callable_of Tryd.func14 (by kernel_rfl) (by kernel_rfl)
theorem cl15 : Callable Tryd.prog 15 := Callable_of Tryd.func15 (by kernel_rfl) (by kernel_rfl)
theorem cl16 : Callable Tryd.prog 16 := Callable_of Tryd.func16 (by kernel_rfl) (by kernel_rfl)
theorem cl17 : Callable Tryd.prog 17 := Callable_of Tryd.func17 (by kernel_rfl) (by kernel_rfl)
theorem cl18 : Callable Tryd.prog 18 := Callable_of Tryd.func18 (by kernel_rfl) (by kernel_rfl)
theorem cl19 : Callable Tryd.prog 19 := Callable_of Tryd.func19 (by kernel_rfl) (by kernel_rfl)
theorem cl20 : Callable Tryd.prog 20 := Callable_of Tryd.func20 (by kernel_rfl) (by kernel_rfl)
theorem cl21 : Callable Tryd.prog 21 := Callable_of Tryd.func21 (by kernel_rfl) (by kernel_rfl)
theorem cl22 : Callable Tryd.prog 22 := Callable_of Tryd.func22 (by kernel_rfl) (by kernel_rfl)
theorem cl23 : Callable Tryd.prog 23 := Callable_of Tryd.func23 (by kernel_rfl) (by kernel_rfl)
theorem cl24 : Callable Tryd.prog 24 := Callable_of Tryd.func24 (by kernel_rfl) (by kernel_rfl)
theorem cl25 : Callable Tryd.prog 25 := Callable_of Tryd.func25 (by kernel_rfl) (by kernel_rfl)
theorem cl26 : Callable Tryd.prog 26 := Callable_of Tryd.func26 (by kernel_rfl) (by kernel_rfl)
theorem cl27 : Callable Tryd.prog 27 := Callable_of Tryd.func27 (by kernel_rfl) (by kernel_rfl)
theorem cl28 : Callable Tryd.prog 28 := Callable_of Tryd.func28 (by kernel_rfl) (by kernel_rfl)
theorem cl29 : Callable Tryd.prog 29 := Callable_of Tryd.func29 (by kernel_rfl) (by kernel_rfl)
theorem cl31 : Callable Tryd.prog 31 := Callable_of Tryd.func31 (by kernel_rfl) (by kernel_rfl)
theorem cl32 : Callable Tryd.prog 32 := Callable_of Tryd.func32 (by kernel_rfl) (by kernel_rfl)
theorem cl34 : Callable Tryd.prog 34 := Callable_of Tryd.func34 (by kernel_rfl) (by kernel_rfl)
theorem cl5 : Callable Tryd.prog 5 := Callable_of Tryd.func5 (by kernel_rfl) (by kernel_rfl)
theorem cl6 : Callable Tryd.prog 6 := Callable_of Tryd.func6 (by kernel_rfl) (by kernel_rfl)
theorem cl7 : Callable Tryd.prog 7 := Callable_of Tryd.func7 (by kernel_rfl) (by kernel_rfl)
theorem cl8 : Callable Tryd.prog 8 := Callable_of Tryd.func8 (by kernel_rfl) (by kernel_rfl)
theorem cl9 : Callable Tryd.prog 9 := Callable_of Tryd.func9 (by kernel_rfl) (by kernel_rfl)
theorem fa23_0 : tyField Tryd.prog 23 0 = some (0, true) := by kernel_rfl
theorem fa23_1 : tyField Tryd.prog 23 1 = some (1, true) := by kernel_rfl
theorem fa23_2 : tyField Tryd.prog 23 2 = some (2, true) := by kernel_rfl
theorem fa26_0 : tyField Tryd.prog 26 0 = some (0, true) := by kernel_rfl
theorem fa26_1 : tyField Tryd.prog 26 1 = some (1, true) := by kernel_rfl
theorem fa26_2 : tyField Tryd.prog 26 2 = some (2, true) := by kernel_rfl
theorem fa31_0 : tyField Tryd.prog 31 0 = some (0, true) := by kernel_rfl
theorem fa31_1 : tyField Tryd.prog 31 1 = some (1, true) := by kernel_rfl
theorem fa31_2 : tyField Tryd.prog 31 2 = some (2, true) := by kernel_rfl
theorem fa31_3 : tyField Tryd.prog 31 3 = some (3, true) := by kernel_rfl
theorem fa36_0 : tyField Tryd.prog 36 0 = some (0, true) := by kernel_rfl
theorem fa36_1 : tyField Tryd.prog 36 1 = some (1, true) := by kernel_rfl
theorem fa36_2 : tyField Tryd.prog 36 2 = some (2, true) := by kernel_rfl
theorem fa36_3 : tyField Tryd.prog 36 3 = some (3, true) := by kernel_rfl
theorem follows : Tryd.prog.follows .mixedOrders = true := by kernel_rfl
theorem ta23 : tyAgg Tryd.prog 23 = some true := by kernel_rfl
theorem ta26 : tyAgg Tryd.prog 26 = some true := by kernel_rfl
theorem ta29 : tyAgg Tryd.prog 29 = some false := by kernel_rfl
theorem ta3 : tyAgg Tryd.prog 3 = some false := by kernel_rfl
theorem ta31 : tyAgg Tryd.prog 31 = some true := by kernel_rfl
theorem ta34 : tyAgg Tryd.prog 34 = some false := by kernel_rfl
theorem ta36 : tyAgg Tryd.prog 36 = some true := by kernel_rfl
theorem ta9 : tyAgg Tryd.prog 9 = some false := by kernel_rfl
theorem tb36 : tyBytes Tryd.prog 36 = some 56 := by kernel_rfl
theorem tbool4 : tyBool Tryd.prog 4 = true := by kernel_rfl
theorem te29 : tyElem Tryd.prog 29 = some 31 := by kernel_rfl
theorem te34 : tyElem Tryd.prog 34 = some 36 := by kernel_rfl
theorem te40 : tyElem Tryd.prog 40 = some 9 := by kernel_rfl
theorem te50 : tyElem Tryd.prog 50 = some 5 := by kernel_rfl
theorem tint3 : tyInt Tryd.prog 3 = some .i64 := by kernel_rfl
theorem tint5 : tyInt Tryd.prog 5 = some .u8 := by kernel_rfl
theorem ts23 : tySize Tryd.prog 23 = some 3 := by kernel_rfl
theorem ts26 : tySize Tryd.prog 26 = some 3 := by kernel_rfl
theorem ts29 : tySize Tryd.prog 29 = some 1 := by kernel_rfl
theorem ts3 : tySize Tryd.prog 3 = some 1 := by kernel_rfl
theorem ts31 : tySize Tryd.prog 31 = some 4 := by kernel_rfl
theorem ts34 : tySize Tryd.prog 34 = some 1 := by kernel_rfl
theorem ts36 : tySize Tryd.prog 36 = some 4 := by kernel_rfl
theorem ts5 : tySize Tryd.prog 5 = some 1 := by kernel_rfl
theorem ts9 : tySize Tryd.prog 9 = some 1 := by kernel_rfl
theorem tstr9 : tyStr Tryd.prog 9 = true := by kernel_rfl
theorem tund3 : (Tryd.prog.underlying 3).isSome = true := by kernel_rfl
theorem tund5 : (Tryd.prog.underlying 5).isSome = true := by kernel_rfl
theorem zo26 : ZeroOf Tryd.prog 26 (Lay.st [.one, .one, .one]) (.d (.agg [.one, .one, .one] [.c (.int .i64 0), .c (.int .i64 0), .c (.string ⟨#[]⟩)])) := ⟨_, tz26, rfl, fun _ _ _ => VC_cells rfl⟩
theorem zo36 : ZeroOf Tryd.prog 36 (Lay.st [.one, .one, .one, .one]) (.d (.agg [.one, .one, .one, .one] [.c (.int .i64 0), .c (.string ⟨#[]⟩), .c (.int .i64 0), .c (.slice none 0 0)])) := ⟨_, tz36, rfl, fun _ _ _ => VC_cells rfl⟩
end Go.Proofs.YtohpcnagkpikjaaDoor

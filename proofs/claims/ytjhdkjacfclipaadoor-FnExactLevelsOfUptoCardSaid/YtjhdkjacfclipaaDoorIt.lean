/- strconv.Itoa, in our words. -/
import Derived.Test.YtjhdkjacfclipaaDoorEng25
import Derived.Test.YtjhdkjacfclipaaDoorOk
import Derived.Test.YtjhdkjacfclipaaDoorShelf
import Derived.KernelRfl
set_option linter.unusedVariables false
namespace Go.Proofs.YtjhdkjacfclipaaDoor
open Go.Eng
theorem c_itoa (n : Int) (h0 : -9223372036854775808 ≤ n) (h1 : n ≤ 9223372036854775807) : PCall Tryd.prog 57 [.c (.int .i64 n)] (· = [.c (.string (dec n))]) := by
  intro w S xs hS hT hd
  obtain ⟨g, hg⟩ : ∃ g, Tryd.prog.globalNamed "internal/strconv.uint64pow10" = some g := ⟨_, show _ = some 0 by kernel_rfl⟩
  cases hd with
  | cons h2 h3 =>
    cases h3
    have := VR0_c.1 (VR0_of_RD (β := fun _ => none) h2)
    obtain ⟨rfl, _⟩ := this
    refine (Tryd.strconv_Itoa n h0 h1 w (hT g hg).2).mono ?_
    rintro e w' ⟨rfl, k, os, rfl⟩
    refine ⟨_, _, S, rfl, rfl, ⟨by simp only [DC]; exact ⟨rfl, rfl⟩, rfl⟩, fun b h => h, fun b h => ⟨?_, .inl h⟩, ⟨rfl, rfl, rfl, ?_, ?_⟩⟩
    · have := hS b h
      show b < (w.heap ++ os).size
      simp; omega
    · show w.heap.size ≤ (w.heap ++ os).size
      simp
    · intro b hb _
      show (w.heap ++ os)[b]? = w.heap[b]?
      exact Array.getElem?_append_left hb
end Go.Proofs.YtjhdkjacfclipaaDoor

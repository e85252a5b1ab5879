/- The join: what a pure run leaves, in the kit's words. -/
import Derived.Test.YtohpcnagkpikjaaEng24
import Derived.RowKit3
set_option linter.unusedVariables false
namespace Go.Eng
theorem frozen_of {w w' : World} (h : Pres (fun _ => False) w w') (a : Addr) : w'.frozen? a = w.frozen? a := by
  by_cases hb : a.block < w.heap.size
  · have := h.block a.block hb (fun h => h)
    simp [World.frozen?, this]
  · have h0 : w.heap[a.block]? = none := by simp; omega
    have h1 : w.frozen? a = false := by simp [World.frozen?, h0]
    have h2 := h.nf a.block (fun cur ty fr e => by rw [h0] at e; cases e)
    rw [h1]
    unfold World.frozen?
    split
    · rename_i c t lo hi e
      have := h2 _ _ _ e
      injection this with q1 q2
      subst q1; subst q2
      simp
    · rfl
theorem grown_of {w w' : World} (h : Pres (fun _ => False) w w') : RowKit.Grown w w' := by
  refine ⟨⟨h.os, h.output, fun i hi => ?_⟩, frozen_of h, h.size⟩
  have e := h.block i hi (fun h => h)
  rw [e]
  cases w.heap[i]? with
  | none => exact rfl
  | some o => cases o <;> simp
end Go.Eng

/- The join: what a pure run leaves, in the kit's words. -/
import Derived.Test.YtjhdkjacfclipaaEng14
import Derived.RowKit3
import Derived.ChangeSame
set_option linter.unusedVariables false
namespace Go.Eng
open Go.ChangeShapes
theorem frozen_of {w w' : World} (h : Pres (fun _ => False) w w') (a : Addr) (hb : a.block < w.heap.size) : w'.frozen? a = w.frozen? a := by
  have := h.block a.block hb (fun h => h)
  simp [World.frozen?, this]
theorem kept_of {w w' : World} (h : Pres (fun _ => False) w w') : w.keptBut w' (fun _ => False) := by
  refine ⟨h.os, h.output, fun i hi => ?_⟩
  have e := h.block i hi (fun h => h)
  rw [e]
  cases w.heap[i]? with
  | none => exact rfl
  | some o => cases o <;> simp

/-- The row's condition behind a run that turned nothing that was there. -/
theorem post_of_pres {H : Type} {enc : TypeId × Value → H} {P : Program} {f : Func} {s : ChangeSpec} {apart fresh handsOn again : Bool} {W W' : World} {args : Array Value} {v : Value} {ds gs : List (DataW H)} {before pa pv : List MemPlace}
    (hW : DataW.Whole enc P f.params.toList s.vars apart W args.toList ds gs before) (hp : Pres (fun _ => False) W W') (hps : before = pa ++ pv)
    (hres : ∀ (b : Nat) (sp : Nat → Bool) (hd : Bool), DataW.TrodAll enc P W' b sp hd f.resultTypes.toList (v.resultList f.resultTypes.size) (s.fn H (ds ++ gs)).results [])
    (hargs : ∀ sp : Nat → Bool, (∀ p ∈ before, sp p.block = true) → DataW.TrodAll enc P W' 0 sp true f.params.toList args.toList (s.fn H (ds ++ gs)).args pa)
    (hvars : ∀ sp : Nat → Bool, (∀ p ∈ before, sp p.block = true) → DataW.TrodVars enc P W' sp s.vars (s.fn H (ds ++ gs)).vars pv)
    (hok : ∀ (j : Nat) (t : TypeId) (r : Value), f.resultTypes[j]? = some t → (v.resultList f.resultTypes.size)[j]? = some r → Value.okWide P W' .any 0 t r) :
    s.post enc P f apart fresh handsOn again W args v W' := by
  have hlt := hW.lt
  have hnf := hW
  obtain ⟨_, _, _, _, _, hz, hn⟩ := hnf
  subst hps
  have hst := trodAll_append (hargs (fun _ => true) fun _ _ => rfl) (hres 0 (fun _ => true) true)
  rw [List.nil_append] at hst
  refine ⟨ds, gs, pa ++ pv, [], pa, pv, hW, hres _ _ _, hargs _ fun p hp => by simpa using hlt p hp, hvars _ fun p hp => by simpa using hlt p hp, World.keptBut_mono (fun p hf => hf.elim) (kept_of hp), fun _ => ⟨hok, _, _, pa ++ pv, ⟨pa, pv, hst, hvars _ fun _ _ => rfl, rfl, fun b off hm => ?_, hn⟩, fun p hm _ => by simpa using hm⟩⟩
  rw [frozen_of hp _ (hlt _ hm)]
  exact hz b off hm
end Go.Eng

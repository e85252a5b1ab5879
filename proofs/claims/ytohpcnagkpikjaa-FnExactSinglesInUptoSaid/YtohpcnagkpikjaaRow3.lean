/- FnExactSinglesIn answers true at every input of bulk at most 1048576, and leaves its argument as it was. -/
import Derived.Test.YtohpcnagkpikjaaJo
import Derived.Test.YtohpcnagkpikjaaC1
import Derived.Test.YtohpcnagkpikjaaPl
namespace Go.Proofs.Ytohpcnagkpikjaa.row3
open Go.Eng Go.ChangeShapes Go.WideShapes Go.ChangeAt Go.RowKit
set_option linter.unusedVariables false
theorem own : ownKnob Try.prog.godebug = none := by kernel_rfl
theorem laidOut : laidOutB Try.prog = true := by kernel_rfl
theorem ty : TermTy Try.prog 24 22 3 9 := ⟨⟨_, _, _, _, Try.underlying24, rfl, rfl, rfl, rfl, rfl, rfl, rfl, rfl⟩, Try.underlying22, Try.underlying3, Try.underlying9, by kernel_rfl, by kernel_rfl, by kernel_rfl, by kernel_rfl⟩

theorem contract (H : Type) (enc : TypeId × Value → H) (W : World) (base : Nat) (args : Array Value) (ds gs : List (DataW H)) (before : List MemPlace)
    (hval : ∀ (j : Nat) t v, Try.f3.params[j]? = some t → args[j]? = some v → Value.okWide Try.prog W .any base t v)
    (hW : DataW.Whole enc Try.prog Try.f3.params.toList Rows.fnExactSinglesInSpec.vars false W args.toList ds gs before) (hk : Rows.uptoSmall H (ds ++ gs) = true) :
    Calls Try.prog 3 args W fun e W' => ∃ v, e = .returned v ∧ Rows.fnExactSinglesInSpec.post enc Try.prog Try.f3 false true false false W args v W' := by
  have hW' := hW
  obtain ⟨p, q, hA0, hV, rfl, hfz, hnd⟩ := hW
  have hA : DataW.TrodAll enc Try.prog W 0 (fun _ => true) true Try.f3.params.toList args.toList ds p := hA0
  rw [Try.params3] at hA hval
  obtain ⟨v0, vs0, d0, ds0, p0, q0, hargs, rfl, rfl, h0, r0⟩ := trodAll_cons hA
  obtain ⟨rfl, rfl, rfl⟩ := trodAll_nil r0
  obtain rfl : args = #[v0] := by rw [← Array.toArray_toList (xs := args), hargs]
  obtain ⟨rfl, rfl⟩ := trodVars_none hV
  have hb : Rows.uptoBulk d0 + 0 ≤ 1048576 := of_decide_eq_true hk
  rw [Nat.add_zero] at hb
  obtain ⟨n, hn⟩ := h0
  obtain ⟨cs, rfl, hcs⟩ := okWide_struct Try.underlying26 (hval 0 26 v0 rfl rfl)
  obtain ⟨c, hc, hcb⟩ := read_clause ty ⟨_, _, _, Try.underlying26, rfl, rfl, rfl, rfl, rfl, rfl⟩ (by kernel_rfl) n _ _ hn hb
  have hcb : bulk c.h + bulk c.b + c.f.size + 2 ≤ (1048576 : Int) := by
    have : (Rows.uptoBulk d0 : Int) ≤ 1048576 := Int.ofNat_le.2 hb
    exact Int.le_trans hcb this
  have n1 := bulk_nn c.h
  have n2 := bulk_nn c.b
  have s1 := sz_bulk c.h
  have s2 := sz_bulk c.b
  have k1 := cntL_sz c.h.kids
  have k2 := cntL_sz c.b.kids
  have e1 : sz c.h = 1 + szs c.h.kids := by cases c.h; rfl
  have e2 : sz c.b = 1 + szs c.b.kids := by cases c.b; rfl
  have et : sz c.term = 1 + (sz c.h + (sz c.b + 0)) := rfl
  have ho := ones_le c.term (uV [] c.term)
  have hu := uV_le c.term []
  simp only [List.length_nil] at hu
  refine law_post laidOut (by rw [Try.params3]; intro t ht; simp at ht; subst ht; exact ⟨by kernel_rfl, of_decide_eq_true (by kernel_rfl)⟩) rfl (by kernel_rfl) Try.underlying4 rfl hW' (dsD := [injC c]) (.cons ⟨hc, rfl⟩ .nil)
    (c_law c (by omega) (by omega) (by omega) (by omega) (singles_law _))

set_option maxRecDepth 100000 in
theorem lifted (os : Os) (started : os.Started) (H : Type) (enc : TypeId × Value → H) (F : Stop.Interp) :
    ReturnsInHanded {} Try.checked os 3 .any ((Rows.OpenSpec.upto Rows.fnExactSinglesInSpec).pre6 enc Try.prog Try.f3 Rows.fnExactSinglesInUptoRow.domain false) (((Rows.OpenSpec.upto Rows.fnExactSinglesInSpec).at F).post enc Try.prog Try.f3 false true false false) := by
  refine returnsInHanded_of_cond (C := Try.checked) (s := Rows.OpenSpec.upto Rows.fnExactSinglesInSpec) (k := Rows.uptoSmall) rfl own started (by kernel_rfl) Try.func3
    (OpenSpec.witness (enc := enc) (C := Try.checked) (s := Rows.OpenSpec.upto Rows.fnExactSinglesInSpec) (k := Rows.uptoSmall) rfl false ⟨#[], #[.agg #[.int .i64 0, .string ⟨#[]⟩, .int .i64 0, .slice none 0 0, .int .i64 0, .string ⟨#[]⟩, .int .i64 0, .slice none 0 0, .string ⟨#[]⟩]], []⟩ 8 (by kernel_rfl) (by kernel_rfl) (by kernel_rfl)
      (x := ([.agg [.agg [.lit (.int .i64 0), .lit (.string []), .lit (.int .i64 0), .nil], .agg [.lit (.int .i64 0), .lit (.string []), .lit (.int .i64 0), .nil], .lit (.string [])]], [], [])) (by kernel_rfl) rfl (by kernel_rfl)) ?_
  intro W base args ds gs before hval hW _ hk _
  exact contract H enc W base args ds gs before hval hW hk

theorem over : Rows.fnExactSinglesInUptoRow.holds Try.pinned (Rows.OpenSpec.upto Rows.fnExactSinglesInSpec) :=
  OpenClaim.holds_of_cond 3 Try.f3 rfl rfl rfl rfl rfl rfl rfl ⟨rfl, rfl, rfl, rfl, rfl⟩ rfl rfl rfl rfl rfl (by kernel_rfl) Try.func3 (by kernel_rfl)
    (of_decide_eq_true (by kernel_rfl)) (by unfold Func.isWrapper; first | (rw [if_pos (by decide +kernel)]; kernel_rfl) | (rw [if_neg (by decide +kernel)]; exact ⟨rfl, rfl⟩))
    (fun os started H enc _ F => lifted os started H enc F)

theorem proved : Rows.FnExactSinglesInUptoSaid :=
  over

end Go.Proofs.Ytohpcnagkpikjaa.row3

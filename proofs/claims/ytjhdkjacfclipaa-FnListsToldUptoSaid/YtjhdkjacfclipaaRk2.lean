/- The join: readings by kind of argument, further. -/
import Derived.Test.YtjhdkjacfclipaaRk
import Derived.Test.YtjhdkjacfclipaaDb
import Derived.Test.YtjhdkjacfclipaaWn
set_option linter.unusedVariables false
set_option linter.unusedSimpArgs false
namespace Go.Proofs.Ytjhdkjacfclipaa
open Go.Eng Go.ChangeShapes Go.WideShapes

section
variable {H : Type} {enc : TypeId × Value → H} {P : Program} {W : World} {base : Nat} {sp : Nat → Bool} {held : Bool}

theorem zsum : ∀ ks : List Int, (ks.map fun _ => (0 : Int)).sum = 0
  | [] => rfl
  | _ :: r => by simp [zsum r]
theorem rdBytes {tU tL : TypeId} (hu : P.underlying tU = some (.int .u8)) (hcB : P.cellsOf tU = 1) (hs : P.underlying tL = some (.slice tU)) {v : Value} {d : DataW H} {p : List MemPlace} (hv : Value.okWide P W .any base tL v) (h : TrodA enc P W tL v d p) (hb : Rows.uptoBulk d ≤ 1048576) :
    ∃ ss : List Int, RD (below W) W (.sl .one (u8s ss)) v ∧ (ss.length : Int) + 1 ≤ (Rows.uptoBulk d : Int) := by
  obtain ⟨n, hn⟩ := h
  obtain ⟨a, len, cap, rfl⟩ := okWide_slice hs hv
  obtain ⟨ks, h1, h2⟩ := read_slice (l := .one) (fun k : Int => .c (.int .u8 k)) (fun _ => (0 : Int)) hs hcB (by decide) (fun n cs x hx hb => by
    obtain ⟨k', rfl, e2, hw⟩ := DataW.trod_int hu hx
    subst e2
    exact ⟨k', by unfold DC; exact ⟨rfl, rfl⟩, rfl, by simp [Rows.uptoBulk]⟩) n _ _ hn hb
  rw [zsum] at h2
  exact ⟨ks, ⟨h1, rfl⟩, by have h3 : (ks.length : Int) + 0 + 1 ≤ (Rows.uptoBulk d : Int) := h2; omega⟩
/-- The types that a program's clauses are made of. -/
structure DbTy (P : Program) (tD tCS tBS tC tB : TypeId) : Prop where
  uD : ∃ f0 f1 : Field, P.underlying tD = some (.struct #[f0, f1]) ∧ f0.type = tCS ∧ f0.offset = 0 ∧ f1.type = tBS ∧ f1.offset = 1
  uC : P.underlying tCS = some (.slice tC)
  uB : P.underlying tBS = some (.slice tB)
  cD : P.cellsOf tD = 2
  cC : P.cellsOf tCS = 1
  cB : P.cellsOf tBS = 1
end
end Go.Proofs.Ytjhdkjacfclipaa

/- Goals of a body; plain programs, flat programs. -/
import Derived.Test.YtjhdkjacfclipaaCs
set_option linter.unusedVariables false
namespace Go.Eng
theorem okT_iff (t : T) : okT t = true ↔ lright t 1 = true ∧ sz t ≤ 400 := by
  unfold okT
  rw [sized_eq]
  by_cases h : lright t 1 = true ∧ sz t ≤ 400
  · rw [if_pos h]; simp only [decide_eq_true_eq]; exact ⟨fun _ => h, fun _ => by omega⟩
  · rw [if_neg h]; simp only [decide_eq_true_eq]; exact ⟨fun h => by omega, fun k => absurd k h⟩
abbrev cTrue : ByteArray := ⟨#[116, 114, 117, 101, 47, 48]⟩
abbrev cEq : ByteArray := ⟨#[61, 47, 50]⟩
abbrev cPr : ByteArray := ⟨#[112, 114, 47, 50]⟩
/-- What a body adds to goals, its kids' walks given; false: it is another one. -/
def goalsA (t : T) (fs : List (List T → List T × Bool)) (out : List T) : List T × Bool :=
  if predS t = cTrue then (out, true)
  else if predS t = cComma then (match fs with | f :: g :: _ => (if (f out).2 = true then g (f out).1 else ((f out).1, false)) | _ => (out, false))
  else if predS t = cEq then (out ++ [t], true)
  else if predS t = ⟨#[]⟩ ∨ ctlB (predS t) = true then (out, false) else (out ++ [t], true)
mutual
def goalsP : T → List T → List T × Bool
  | .mk k s m ks => goalsA (.mk k s m ks) (goalsPs ks)
def goalsPs : List T → List (List T → List T × Bool)
  | [] => []
  | t :: r => goalsP t :: goalsPs r
end
section
variable {k m : Int} {s : ByteArray} {x y : T} {ks : List T} {out : List T}
end
/-- The goals of a body, and whether it has just goals. -/
def goalsIn (t : T) : List T × Bool := if okT t = true ∧ (goalsP t []).2 = true then ((goalsP t []).1, true) else ([], false)
section
variable {k m : Int} {s : ByteArray} {x y : T} {ks : List T}
end
def headB (t : T) : Bool := !decide (predS t = ⟨#[]⟩) && !ctlB (predS t)
def clB (c : Cl) : Bool := okT c.h && okT c.b && headB c.h
def dbB (d : Dbt) : Bool := d.cs.all clB && decide ((d.cs.length : Int) ≤ 120) && decide ((d.op.length : Int) ≤ 40)
def plainB (d : Dbt) : Bool := d.cs.all (fun c => (goalsIn c.b).2 && !decide (predS c.h = cPr)) && dbB d
def flatC1 (c : Cl) : Bool := (goalsIn c.b).2 && flatT c.h && decide (((goalsIn c.b).1.length : Int) ≤ 2) && (goalsIn c.b).1.all (fun g => flatT g && !decide (predS g = cEq)) && (uV [] c.h).all fun n => decide (n ∈ uV [] c.b)
def flatDB (d : Dbt) : Bool := d.cs.all flatC1 && plainB d
/-- The variables of goals, one goal behind the other. -/
def metF : List T → List Int
  | [] => []
  | g :: r => uV [] g ++ metF r
def goalB (g : T) : Bool := flatT g && !decide (predS g = cEq)
end Go.Eng

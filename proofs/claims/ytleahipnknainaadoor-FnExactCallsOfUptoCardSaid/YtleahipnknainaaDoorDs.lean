/- What a program's predicates call. -/
import Derived.Test.YtleahipnknainaaDoorCs
set_option linter.unusedVariables false
namespace Go.Eng
def clsOf : List Cl → ByteArray → List Cl
  | [], _ => []
  | c :: r, p => if predS c.h = p then c :: clsOf r p else clsOf r p
theorem clsOf_len (cs : List Cl) (p : ByteArray) : (clsOf cs p).length ≤ cs.length := by
  induction cs with
  | nil => simp [clsOf]
  | cons c r ih => simp only [clsOf]; split <;> simp <;> omega
theorem clsOf_mem {cs : List Cl} {p : ByteArray} {c : Cl} (h : c ∈ clsOf cs p) : c ∈ cs := by
  induction cs with
  | nil => simp [clsOf] at h
  | cons d r ih =>
    simp only [clsOf] at h
    split at h
    · rcases List.mem_cons.1 h with rfl | h
      · simp
      · exact List.mem_cons_of_mem _ (ih h)
    · exact List.mem_cons_of_mem _ (ih h)
def addAll (out : List ByteArray) : List ByteArray → List ByteArray
  | [] => out
  | x :: r => addAll (onceL out x) r
theorem addAll_len (xs : List ByteArray) : ∀ out : List ByteArray, (addAll out xs).length ≤ out.length + xs.length := by
  induction xs with
  | nil => intro out; simp [addAll]
  | cons x r ih =>
    intro out
    have := ih (onceL out x)
    have := onceL_len out x
    simp only [addAll, List.length_cons]; omega
def callsL : List Cl → List ByteArray → List ByteArray
  | [], out => out
  | c :: r, out => callsL r (addAll out (callsIn c.b))
/-- How many places the calls of clauses may take. -/
def wC : List Cl → Nat
  | [] => 0
  | c :: r => (callsIn c.b).length + wC r
theorem wC_bulk (cs : List Cl) : (wC cs : Int) ≤ cs.length + bulkCs cs := by
  induction cs with
  | nil => simp [wC, bulkCs]
  | cons c r ih =>
    have h1 := callsIn_len c.b
    have h2 := sz_bulk c.b
    have h3 := bulk_nn c.h
    simp only [wC, bulkCs, bulkC, List.length_cons]
    push_cast
    omega
theorem wC_clsOf (cs : List Cl) (p : ByteArray) : wC (clsOf cs p) ≤ wC cs := by
  induction cs with
  | nil => simp [clsOf]
  | cons c r ih => simp only [clsOf]; split <;> simp only [wC] <;> omega
theorem callsL_len (cs : List Cl) : ∀ out : List ByteArray, (callsL cs out).length ≤ out.length + wC cs := by
  induction cs with
  | nil => intro out; simp [callsL]
  | cons c r ih =>
    intro out
    have := ih (addAll out (callsIn c.b))
    have := addAll_len (callsIn c.b) out
    simp only [callsL, wC]; omega
def callsOf (d : Dbt) (p : ByteArray) : List ByteArray := callsL (clsOf d.cs p) []
theorem callsOf_len (d : Dbt) (p : ByteArray) : ((callsOf d p).length : Int) ≤ d.cs.length + bulkCs d.cs := by
  have h1 := callsL_len (clsOf d.cs p) []
  have h2 := wC_clsOf d.cs p
  have h3 := wC_bulk d.cs
  unfold callsOf
  simp at h1
  omega
theorem ite_dec {α : Type} {p : Prop} [Decidable p] {a b : α} (h : decide p = true) : (if p then a else b) = a := if_pos (of_decide_eq_true h)
theorem ite_decn {α : Type} {p : Prop} [Decidable p] {a b : α} (h : decide p = false) : (if p then a else b) = b := if_neg (of_decide_eq_false h)
end Go.Eng

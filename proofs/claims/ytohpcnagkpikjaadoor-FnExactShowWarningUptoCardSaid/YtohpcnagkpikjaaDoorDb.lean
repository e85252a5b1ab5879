/- Clauses of a program, and its open predicates. -/
import Derived.Test.YtohpcnagkpikjaaDoorEng25
set_option linter.unusedVariables false
namespace Go.Eng
structure Dbt where
  cs : List Cl
  op : List ByteArray
abbrev LD : Lay := .st [.one, .one]
def injD : Dbt → D
  | ⟨cs, op⟩ => .agg [.one, .one] [.sl LC (injCs cs), .sl .one (strs op)]
def bulkC (c : Cl) : Int := bulk c.h + bulk c.b + c.f.size
def bulkCs : List Cl → Int
  | [] => 0
  | c :: r => bulkC c + bulkCs r
def bulkSs : List ByteArray → Int
  | [] => 0
  | s :: r => s.size + bulkSs r
def bulkD (d : Dbt) : Int := d.cs.length + bulkCs d.cs + d.op.length + bulkSs d.op
theorem bulkC_nn (c : Cl) : 0 ≤ bulkC c := by
  have := bulk_nn c.h
  have := bulk_nn c.b
  unfold bulkC; omega
theorem bulkCs_nn : ∀ cs : List Cl, 0 ≤ bulkCs cs
  | [] => by simp [bulkCs]
  | c :: r => by have := bulkC_nn c; have := bulkCs_nn r; simp only [bulkCs]; omega
theorem bulkSs_nn : ∀ cs : List ByteArray, 0 ≤ bulkSs cs
  | [] => by simp [bulkSs]
  | c :: r => by have := bulkSs_nn r; simp only [bulkSs]; omega
theorem bulkCs_sum (cs : List Cl) : (cs.map bulkC).sum = bulkCs cs := by
  induction cs with
  | nil => rfl
  | cons c r ih => simp [bulkCs, ih]
theorem bulkSs_sum (ss : List ByteArray) : (ss.map fun s => (s.size : Int)).sum = bulkSs ss := by
  induction ss with
  | nil => rfl
  | cons c r ih => simp [bulkSs, ih]
theorem bulkL_sum (ts : List T) : (ts.map bulk).sum = bulkL ts := by
  induction ts with
  | nil => simp [bulkL]
  | cons c r ih => simp [bulkL, ih]
theorem bulkCs_mem {cs : List Cl} {c : Cl} (h : c ∈ cs) : bulkC c ≤ bulkCs cs := by
  induction cs with
  | nil => cases h
  | cons v r ih =>
    have h1 := bulkC_nn v
    have h2 := bulkCs_nn r
    rcases List.mem_cons.1 h with rfl | h
    · simp only [bulkCs]; omega
    · have := ih h; simp only [bulkCs]; omega
theorem bulkSs_mem {cs : List ByteArray} {c : ByteArray} (h : c ∈ cs) : (c.size : Int) ≤ bulkSs cs := by
  induction cs with
  | nil => cases h
  | cons v r ih =>
    have h2 := bulkSs_nn r
    rcases List.mem_cons.1 h with rfl | h
    · simp only [bulkSs]; omega
    · have := ih h; simp only [bulkSs]; omega
end Go.Eng

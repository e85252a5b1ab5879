/- Clauses of a program, and its open predicates. -/
import Derived.Test.YtjhdkjacfclipaaEng25
import Derived.Test.YtjhdkjacfclipaaOk
set_option linter.unusedVariables false
namespace Go.Eng
structure Dbt where
  cs : List Cl
  op : List ByteArray
abbrev LD : Lay := .st [.one, .one]
def injD : Dbt → D
  | ⟨cs, op⟩ => .agg [.one, .one] [.sl LC (injCs cs), .sl .one (strs op)]
def bulkC (c : Cl) : Int := bulk c.h + bulk c.b + c.f.size
def bulkCs : List Cl → Int
  | [] => 0
  | c :: r => bulkC c + bulkCs r
def bulkSs : List ByteArray → Int
  | [] => 0
  | s :: r => s.size + bulkSs r
def bulkD (d : Dbt) : Int := d.cs.length + bulkCs d.cs + d.op.length + bulkSs d.op
theorem bulkC_nn (c : Cl) : 0 ≤ bulkC c := by
  have := bulk_nn c.h
  have := bulk_nn c.b
  unfold bulkC; omega
theorem bulkCs_nn : ∀ cs : List Cl, 0 ≤ bulkCs cs
  | [] => by simp [bulkCs]
  | c :: r => by have := bulkC_nn c; have := bulkCs_nn r; simp only [bulkCs]; omega
theorem bulkSs_nn : ∀ cs : List ByteArray, 0 ≤ bulkSs cs
  | [] => by simp [bulkSs]
  | c :: r => by have := bulkSs_nn r; simp only [bulkSs]; omega
theorem bulkCs_sum (cs : List Cl) : (cs.map bulkC).sum = bulkCs cs := by
  induction cs with
  | nil => rfl
  | cons c r ih => simp [bulkCs, ih]
theorem bulkSs_sum (ss : List ByteArray) : (ss.map fun s => (s.size : Int)).sum = bulkSs ss := by
  induction ss with
  | nil => rfl
  | cons c r ih => simp [bulkSs, ih]
theorem bulkL_sum (ts : List T) : (ts.map bulk).sum = bulkL ts := by
  induction ts with
  | nil => simp [bulkL]
  | cons c r ih => simp [bulkL, ih]
theorem bulkCs_mem {cs : List Cl} {c : Cl} (h : c ∈ cs) : bulkC c ≤ bulkCs cs := by
  induction cs with
  | nil => cases h
  | cons v r ih =>
    have h1 := bulkC_nn v
    have h2 := bulkCs_nn r
    rcases List.mem_cons.1 h with rfl | h
    · simp only [bulkCs]; omega
    · have := ih h; simp only [bulkCs]; omega
theorem bulkSs_mem {cs : List ByteArray} {c : ByteArray} (h : c ∈ cs) : (c.size : Int) ≤ bulkSs cs := by
  induction cs with
  | nil => cases h
  | cons v r ih =>
    have h2 := bulkSs_nn r
    rcases List.mem_cons.1 h with rfl | h
    · simp only [bulkSs]; omega
    · have := ih h; simp only [bulkSs]; omega
def hasS : List ByteArray → ByteArray → Bool
  | [], _ => false
  | x :: r, s => decide (x = s) || hasS r s
def onceL (xs : List ByteArray) (s : ByteArray) : List ByteArray := if hasS xs s then xs else xs ++ [s]
theorem onceL_len (xs : List ByteArray) (s : ByteArray) : (onceL xs s).length ≤ xs.length + 1 := by unfold onceL; split <;> simp
def predsF : List Cl → List ByteArray → List ByteArray
  | [], out => out
  | c :: r, out => predsF r (onceL out (predS c.h))
theorem predsF_len : ∀ (cs : List Cl) (out : List ByteArray), (predsF cs out).length ≤ out.length + cs.length
  | [], out => by simp [predsF]
  | c :: r, out => by
    have := predsF_len r (onceL out (predS c.h))
    have := onceL_len out (predS c.h)
    simp only [predsF, List.length_cons]; omega
theorem bulkCs_bd {cs : List Cl} {c : Cl} {B : Int} (h : c ∈ cs) (hb : bulkCs cs ≤ B) : bulk c.h ≤ B ∧ bulk c.b ≤ B ∧ (c.f.size : Int) ≤ B := by
  have h1 := bulkCs_mem h
  have h2 := bulk_nn c.h
  have h3 := bulk_nn c.b
  unfold bulkC at h1
  omega
def idxS : List ByteArray → ByteArray → Nat → Int
  | [], _, _ => -1
  | x :: r, s, j => if x = s then j else idxS r s (j + 1)
theorem idxS_has (xs : List ByteArray) (s : ByteArray) : ∀ j : Nat, decide (0 ≤ idxS xs s j) = hasS xs s := by
  induction xs with
  | nil => intro j; rfl
  | cons x r ih =>
    intro j
    simp only [idxS, hasS]
    by_cases h : x = s
    · simp [h]
    · simp [h, ih]
theorem bulkD_bd {cs : List Cl} {op : List ByteArray} {B : Int} (h : bulkD ⟨cs, op⟩ ≤ B) : (cs.length : Int) ≤ B ∧ bulkCs cs ≤ B ∧ (op.length : Int) ≤ B ∧ bulkSs op ≤ B := by
  have h1 := bulkCs_nn cs
  have h2 := bulkSs_nn op
  unfold bulkD at h
  simp only at h
  omega
end Go.Eng

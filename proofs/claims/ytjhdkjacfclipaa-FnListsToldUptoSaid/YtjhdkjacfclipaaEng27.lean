/- The engine: functions that mark, told by their blocks alone; lists of texts that stand apart; rows of clauses. -/
import Derived.Test.YtjhdkjacfclipaaMt
import Derived.Test.YtjhdkjacfclipaaEng26
import Derived.Test.YtjhdkjacfclipaaDb
set_option linter.unusedVariables false
set_option linter.unusedSimpArgs false
namespace Go.Eng

def MWk (P : Program) (k : FuncId) (d : D) (m m' : Int) : Prop :=
  ∀ (w : World) (x : Value) (K : List Nat), Tr w d x.cells.toList K → d.isAgg = isAggV x → Calls P k #[x, .int .i64 m] w fun e w' => e = .returned (.int .i64 m') ∧ Pres (fun b => b ∈ K) w w'
def retMW (fn : Func) (P : Program) (w0 : World) (K : List Nat) (m' : Int) (a : Act) (w' : World) : Prop :=
  a.defers = [] ∧ (results fn a.tmps).run P w' = .ok (.int .i64 m') w' ∧ Pres (fun b => b ∈ K) w0 w'
def retMWQ (fn : Func) (P : Program) (w0 : World) (K : List Nat) (m' : Int) : AQ := fun e a w => ends e = true ∧ retMW fn P w0 K m' a w
section
variable {P : Program} {C : Cx} {n : Nat} {f : Fr} {L : Hp} {Q : AQ} {ops : Array Oper} {rest : List Oper} {dst : Option Tmp} {ty : TypeId} {pos : String} {after : Array Edge}
end

/-! ### Lists of texts -/
abbrev vs (s : ByteArray) : Value := .string s
theorem strs_Trs {w : World} : ∀ (xs : List ByteArray), Trs w (List.replicate xs.length .one) (strs xs) (xs.map vs) []
  | [] => by simp [strs, Trs]
  | x :: xs => by
    simp only [strs, List.map_cons, List.length_cons, List.replicate_succ, Trs]
    exact ⟨_, _, [vs x], xs.map vs, [], [], rfl, rfl, rfl, rfl, by simp, by simp [Tr, Value.scalar], strs_Trs xs⟩
/-- The texts of marks, from one on. -/
def txts (k : Int) : Nat → List ByteArray
  | 0 => []
  | n + 1 => mtext k :: txts (k + 1) n
@[simp] theorem txts_length : ∀ (n : Nat) (k : Int), (txts k n).length = n
  | 0, _ => rfl
  | n + 1, k => by simp [txts, txts_length n]
/-! ### Rows of clauses -/
def flatC : List Cl → List T
  | [] => []
  | c :: r => c.h :: c.b :: flatC r
def cntC (c : Cl) : Int := 7 + cntL c.h.kids + cntL c.b.kids
def cntCs : List Cl → Int
  | [] => 0
  | c :: r => cntC c + cntCs r
/-- What of a block of clauses the marks leave: where the kids lie. -/
def ShC (cur As : List Value) (n : Nat) : Prop := ∀ j, j < n → cur[9 * j + 3]? = As[2 * j]? ∧ cur[9 * j + 7]? = As[2 * j + 1]?
theorem ShC.set {cur As : List Value} {n : Nat} (h : ShC cur As n) (p : Nat) (v : Value) (hp : ∀ j, p ≠ 9 * j + 3 ∧ p ≠ 9 * j + 7) : ShC (cur.set p v) As n := fun j hj => by
  rw [List.getElem?_set_ne (hp j).1, List.getElem?_set_ne (hp j).2]
  exact h j hj
theorem VwL_of {L : Hp} {src : List (Option Nat)} {es : List V} {zs : List D} (h : es = zs.map V.d) : VwL L src es (zs.map V.d) := by subst h; exact VwL_d _
@[simp] theorem injC_lenL (c : Cl) : (injC c).len? = LC.len := rfl
def zC : D := .agg [LT, LT, .one] [zT, zT, .c (.string ⟨#[]⟩)]
/-- A list of texts that is filled from the left. -/
def fillS (ss : List ByteArray) (j : Nat) : List D := strs (ss.take j) ++ List.replicate (ss.length - j) (.c (.string ⟨#[]⟩))
@[simp] theorem fillS_len (ss : List ByteArray) (j : Nat) : (fillS ss j).length = ss.length := by simp [fillS]; omega
@[simp] theorem injD_lenL (d : Dbt) : (injD d).len? = LD.len := by cases d; rfl
@[simp] theorem injD_agL (d : Dbt) : LD.ag = (injD d).isAgg := by cases d; rfl
theorem ReadsL_eq {L : Hp} {F : Nat → Prop} {es : List V} {xs : List D} (h : es = xs.map V.d) : ReadsL L F es xs := h ▸ ReadsL_d xs
end Go.Eng

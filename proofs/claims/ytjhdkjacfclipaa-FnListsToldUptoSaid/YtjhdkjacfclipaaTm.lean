/- Terms as trees, and how they read. -/
import Derived.Test.YtjhdkjacfclipaaEng14
set_option linter.unusedVariables false
namespace Go.Eng

inductive T where
  | mk (kind : Int) (name : ByteArray) (num : Int) (kids : List T)

def T.kind : T → Int | .mk k _ _ _ => k
def T.name : T → ByteArray | .mk _ s _ _ => s
def T.num : T → Int | .mk _ _ m _ => m
def T.kids : T → List T | .mk _ _ _ ks => ks

abbrev LT : Lay := .st [.one, .one, .one, .one]
def zT : D := .agg [.one, .one, .one, .one] [.c (.int .i64 0), .c (.string ⟨#[]⟩), .c (.int .i64 0), .c (.slice none 0 0)]
mutual
def inj : T → D
  | .mk k s m ks => .agg [.one, .one, .one, .one] [.c (.int .i64 k), .c (.string s), .c (.int .i64 m), .sl LT (injs ks)]
def injs : List T → List D
  | [] => []
  | t :: r => inj t :: injs r
end
theorem injs_map (ks : List T) : injs ks = ks.map inj := by
  induction ks with
  | nil => simp [injs]
  | cons t r ih => simp [injs, ih]
theorem injs_get {ks : List T} {i : Nat} {t : T} (h : ks[i]? = some t) : (injs ks)[i]? = some (inj t) := by rw [injs_map]; simp [h]
@[simp] theorem injs_length (ks : List T) : (injs ks).length = ks.length := by rw [injs_map]; simp
@[simp] theorem inj_len (t : T) : (inj t).len? = 4 := by cases t; rfl
@[simp] theorem inj_agg (t : T) : (inj t).isAgg = true := by cases t; rfl

mutual
def sz : T → Nat
  | .mk _ _ _ ks => 1 + szs ks
def szs : List T → Nat
  | [] => 0
  | t :: r => sz t + szs r
end
theorem sz_mem {ks : List T} {t : T} (h : t ∈ ks) : sz t ≤ szs ks := by
  induction ks with
  | nil => cases h
  | cons u r ih =>
    rcases List.mem_cons.1 h with rfl | h
    · simp only [szs]; omega
    · simp only [szs]; have := ih h; omega
theorem sz_pos (t : T) : 1 ≤ sz t := by cases t; simp only [sz]; omega
/-- An induction over trees. -/
theorem T.ind {p : T → Prop} (h : ∀ k s m ks, (∀ t ∈ ks, p t) → p (.mk k s m ks)) (t : T) : p t := by
  generalize hn : sz t = n
  induction n using Nat.strongRecOn generalizing t with
  | _ n ih =>
    cases t with
    | mk k s m ks =>
      refine h k s m ks fun u hu => ih (sz u) ?_ u rfl
      have := sz_mem hu
      simp only [sz] at hn
      omega

mutual
def times (n : Int) : T → Nat
  | .mk k _ m ks => (if k = 1 ∧ m = n then 1 else 0) + timesL n ks
def timesL (n : Int) : List T → Nat
  | [] => 0
  | t :: r => times n t + timesL n r
end
mutual
/-- A term with other numbers of its variables. -/
def rn (g : Int → Int) : T → T
  | .mk k s m ks => .mk k s (if k = 1 then g m else m) (rnL g ks)
def rnL (g : Int → Int) : List T → List T
  | [] => []
  | t :: r => rn g t :: rnL g r
end
theorem rnL_map (g : Int → Int) (ks : List T) : rnL g ks = ks.map (rn g) := by
  induction ks with
  | nil => simp [rnL]
  | cons t r ih => simp [rnL, ih]
@[simp] theorem rnL_length (g : Int → Int) (ks : List T) : (rnL g ks).length = ks.length := by rw [rnL_map]; simp
theorem take_succ_get {α : Type} : ∀ {ks : List α} {i : Nat} {u : α}, ks[i]? = some u → ks.take (i + 1) = ks.take i ++ [u]
  | [], i, u, h => by simp at h
  | k :: r, 0, u, h => by simp at h; subst h; simp
  | k :: r, i + 1, u, h => by simp at h; simp [take_succ_get h]
theorem drop_get {α : Type} : ∀ {ks : List α} {i : Nat} {u : α}, ks[i]? = some u → ks.drop i = u :: ks.drop (i + 1)
  | [], i, u, h => by simp at h
  | k :: r, 0, u, h => by simp at h; subst h; simp
  | k :: r, i + 1, u, h => by simp at h; simp [drop_get h]
theorem injs_take_map {α : Type} (F : α → T) {ks : List α} {i : Nat} {u : α} (h : ks[i]? = some u) : injs ((ks.take i).map F) ++ [inj (F u)] = injs ((ks.take (i + 1)).map F) := by
  rw [injs_map, injs_map, take_succ_get h]
  simp
theorem inj_lenL (t : T) : (inj t).len? = LT.len := by rw [inj_len]; rfl
theorem inj_agL (t : T) : LT.ag = (inj t).isAgg := by rw [inj_agg]; rfl
theorem injs_take_get {ks : List T} {i : Nat} {u : T} (h : ks[i]? = some u) : injs (ks.take (i + 1)) = injs (ks.take i) ++ [inj u] := by
  rw [injs_map, injs_map, take_succ_get h]
  simp
mutual
/-- The numbers of the variables, as often as they stand there. -/
def vars : T → List Int
  | .mk k _ m ks => (if k = 1 then [m] else []) ++ varsL ks
def varsL : List T → List Int
  | [] => []
  | t :: r => vars t ++ varsL r
end
mutual
theorem rn_id : ∀ t : T, rn id t = t
  | .mk k s m ks => by simp only [rn, rnL_id ks]; split <;> rfl
theorem rnL_id : ∀ ks : List T, rnL id ks = ks
  | [] => rfl
  | t :: r => by simp only [rnL, rn_id t, rnL_id r]
end
/-- A clause: head, body, file. -/
structure Cl where
  h : T
  b : T
  f : ByteArray
abbrev LC : Lay := .st [LT, LT, .one]
def injC (c : Cl) : D := .agg [LT, LT, .one] [inj c.h, inj c.b, .c (.string c.f)]
@[simp] theorem injC_len (c : Cl) : (injC c).len? = 9 := rfl
@[simp] theorem injC_agg (c : Cl) : (injC c).isAgg = true := rfl
def neck : ByteArray := ⟨#[58, 45]⟩
/-- The clause as a term. -/
def Cl.term (c : Cl) : T := .mk 4 neck 0 [c.h, c.b]
mutual
/-- What the laws count of a term. -/
def bulk : T → Int
  | .mk _ s _ ks => s.size + bulkS ks
def bulkS : List T → Int
  | ks => ks.length + bulkL ks
def bulkL : List T → Int
  | [] => 0
  | t :: r => bulk t + bulkL r
end

theorem bulkS_eq (ks : List T) : bulkS ks = ks.length + bulkL ks := by cases ks <;> simp [bulkS]
mutual
theorem bulk_nn : ∀ t : T, 0 ≤ bulk t
  | .mk _ s _ ks => by
    have := bulkL_nn ks
    simp only [bulk, bulkS_eq]
    omega
theorem bulkL_nn : ∀ ks : List T, 0 ≤ bulkL ks
  | [] => by simp [bulkL]
  | t :: r => by
    have := bulk_nn t
    have := bulkL_nn r
    simp only [bulkL]
    omega
end
mutual
theorem sz_bulk : ∀ t : T, (sz t : Int) ≤ 1 + bulk t
  | .mk _ s _ ks => by
    have := szs_bulk ks
    simp only [sz, bulk, bulkS_eq]
    push_cast
    omega
theorem szs_bulk : ∀ ks : List T, (szs ks : Int) ≤ ks.length + bulkL ks
  | [] => by simp [szs, bulkL]
  | t :: r => by
    have := sz_bulk t
    have := szs_bulk r
    simp only [szs, bulkL, List.length_cons]
    push_cast
    omega
end
mutual
/-- The numbers of the variables, each once, behind a list. -/
def uV : List Int → T → List Int
  | out, .mk k _ m ks => uL (if k = 1 ∧ m ∉ out then out ++ [m] else out) ks
def uL : List Int → List T → List Int
  | out, [] => out
  | out, t :: r => uL (uV out t) r
end
/-- The numbers that stand nowhere else in the list, up to a place. -/
def sgl (all : List Int) : Nat → List Int
  | 0 => []
  | j + 1 => sgl all j ++ (match all[j]? with | some n => (if n ∉ all.take j ∧ n ∉ all.drop (j + 1) then [n] else []) | none => [])
/-- The numbers of a list that a term has once. -/
def ones (t : T) (vs : List Int) : List Int := vs.filter fun x => decide (times x t = 1)
end Go.Eng

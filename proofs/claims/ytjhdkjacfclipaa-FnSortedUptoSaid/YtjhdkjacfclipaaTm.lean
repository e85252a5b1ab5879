/- Terms as trees, and how they read. -/
import Derived.Test.YtjhdkjacfclipaaEng14
set_option linter.unusedVariables false
namespace Go.Eng

inductive T where
  | mk (kind : Int) (name : ByteArray) (num : Int) (kids : List T)

def T.kind : T → Int | .mk k _ _ _ => k
def T.name : T → ByteArray | .mk _ s _ _ => s
def T.num : T → Int | .mk _ _ m _ => m
def T.kids : T → List T | .mk _ _ _ ks => ks

abbrev LT : Lay := .st [.one, .one, .one, .one]
def zT : D := .agg [.one, .one, .one, .one] [.c (.int .i64 0), .c (.string ⟨#[]⟩), .c (.int .i64 0), .c (.slice none 0 0)]
mutual
def inj : T → D
  | .mk k s m ks => .agg [.one, .one, .one, .one] [.c (.int .i64 k), .c (.string s), .c (.int .i64 m), .sl LT (injs ks)]
def injs : List T → List D
  | [] => []
  | t :: r => inj t :: injs r
end
theorem injs_map (ks : List T) : injs ks = ks.map inj := by
  induction ks with
  | nil => simp [injs]
  | cons t r ih => simp [injs, ih]
theorem injs_get {ks : List T} {i : Nat} {t : T} (h : ks[i]? = some t) : (injs ks)[i]? = some (inj t) := by rw [injs_map]; simp [h]
@[simp] theorem injs_length (ks : List T) : (injs ks).length = ks.length := by rw [injs_map]; simp
@[simp] theorem inj_len (t : T) : (inj t).len? = 4 := by cases t; rfl
@[simp] theorem inj_agg (t : T) : (inj t).isAgg = true := by cases t; rfl

mutual
def sz : T → Nat
  | .mk _ _ _ ks => 1 + szs ks
def szs : List T → Nat
  | [] => 0
  | t :: r => sz t + szs r
end
theorem sz_mem {ks : List T} {t : T} (h : t ∈ ks) : sz t ≤ szs ks := by
  induction ks with
  | nil => cases h
  | cons u r ih =>
    rcases List.mem_cons.1 h with rfl | h
    · simp only [szs]; omega
    · simp only [szs]; have := ih h; omega
theorem sz_pos (t : T) : 1 ≤ sz t := by cases t; simp only [sz]; omega
theorem szs_len (ks : List T) : ks.length ≤ szs ks := by
  induction ks with
  | nil => simp [szs]
  | cons u r ih => simp only [szs, List.length_cons]; have := sz_pos u; omega

/-- An induction over trees. -/
theorem T.ind {p : T → Prop} (h : ∀ k s m ks, (∀ t ∈ ks, p t) → p (.mk k s m ks)) (t : T) : p t := by
  generalize hn : sz t = n
  induction n using Nat.strongRecOn generalizing t with
  | _ n ih =>
    cases t with
    | mk k s m ks =>
      refine h k s m ks fun u hu => ih (sz u) ?_ u rfl
      have := sz_mem hu
      simp only [sz] at hn
      omega

mutual
def times (n : Int) : T → Nat
  | .mk k _ m ks => (if k = 1 ∧ m = n then 1 else 0) + timesL n ks
def timesL (n : Int) : List T → Nat
  | [] => 0
  | t :: r => times n t + timesL n r
end
theorem timesL_take (n : Int) (ks : List T) (i : Nat) (t : T) (h : ks[i]? = some t) : timesL n (ks.take (i + 1)) = timesL n (ks.take i) + times n t := by
  induction ks generalizing i with
  | nil => simp at h
  | cons u r ih =>
    cases i with
    | zero => simp at h; subst h; simp [timesL]
    | succ i => simp at h; simp only [List.take_succ_cons, timesL]; rw [ih i h]; omega
mutual
theorem times_le (n : Int) : ∀ t : T, times n t ≤ sz t
  | .mk k s m ks => by simp only [times, sz]; have := timesL_le n ks; split <;> omega
theorem timesL_le (n : Int) : ∀ ks : List T, timesL n ks ≤ szs ks
  | [] => by simp [timesL, szs]
  | t :: r => by simp only [timesL, szs]; have := times_le n t; have := timesL_le n r; omega
end
theorem timesL_take_le (n : Int) (ks : List T) (i : Nat) : timesL n (ks.take i) ≤ timesL n ks := by
  induction ks generalizing i with
  | nil => simp
  | cons u r ih => cases i with
    | zero => simp [timesL]
    | succ i => simp only [List.take_succ_cons, timesL]; have := ih i; omega

mutual
/-- A term with other numbers of its variables. -/
def rn (g : Int → Int) : T → T
  | .mk k s m ks => .mk k s (if k = 1 then g m else m) (rnL g ks)
def rnL (g : Int → Int) : List T → List T
  | [] => []
  | t :: r => rn g t :: rnL g r
end
theorem rnL_map (g : Int → Int) (ks : List T) : rnL g ks = ks.map (rn g) := by
  induction ks with
  | nil => simp [rnL]
  | cons t r ih => simp [rnL, ih]
@[simp] theorem rnL_length (g : Int → Int) (ks : List T) : (rnL g ks).length = ks.length := by rw [rnL_map]; simp
theorem take_succ_get {α : Type} : ∀ {ks : List α} {i : Nat} {u : α}, ks[i]? = some u → ks.take (i + 1) = ks.take i ++ [u]
  | [], i, u, h => by simp at h
  | k :: r, 0, u, h => by simp at h; subst h; simp
  | k :: r, i + 1, u, h => by simp at h; simp [take_succ_get h]
theorem drop_get {α : Type} : ∀ {ks : List α} {i : Nat} {u : α}, ks[i]? = some u → ks.drop i = u :: ks.drop (i + 1)
  | [], i, u, h => by simp at h
  | k :: r, 0, u, h => by simp at h; subst h; simp
  | k :: r, i + 1, u, h => by simp at h; simp [drop_get h]
theorem injs_take_map {α : Type} (F : α → T) {ks : List α} {i : Nat} {u : α} (h : ks[i]? = some u) : injs ((ks.take i).map F) ++ [inj (F u)] = injs ((ks.take (i + 1)).map F) := by
  rw [injs_map, injs_map, take_succ_get h]
  simp
theorem inj_lenL (t : T) : (inj t).len? = LT.len := by rw [inj_len]; rfl
theorem inj_agL (t : T) : LT.ag = (inj t).isAgg := by rw [inj_agg]; rfl
theorem T_cells {B : Nat} {C : Cx} {t : T} {cs : List Value} {K : List Nat} (h : Has B C (inj t) cs K) : ∃ A, cs = [.int .i64 t.kind, .string t.name, .int .i64 t.num, A] ∧ Has B C (.sl LT (injs t.kids)) [A] K := by
  cases t with
  | mk k s m ks =>
    have ht := h.tr
    simp only [inj, Tr, Trs] at ht
    obtain ⟨f1, r1, c1, d1, M1, N1, e1, rfl, l1, rfl, a1, ⟨rfl, _, rfl⟩, f2, r2, c2, d2, M2, N2, rfl, rfl, l2, rfl, a2, ⟨rfl, _, rfl⟩, f3, r3, c3, d3, M3, N3, rfl, rfl, l3, rfl, a3, ⟨rfl, _, rfl⟩, f4, r4, c4, d4, M4, N4, rfl, rfl, l4, rfl, a4, h4, rfl, rfl, rfl⟩ := ht
    injection e1 with e1 e2
    injection e2 with e2 e3
    injection e3 with e3 e4
    injection e4 with e4 e5
    subst e4
    match c4, l4 with
    | [A], _ =>
      refine ⟨A, rfl, ⟨by show Tr C.w0 (.sl LT (injs ks)) [A] _; simp only [List.append_nil, List.nil_append, Tr]; exact h4, ?_, ?_, ?_⟩⟩
      · intro b hb; exact h.dm b (by simpa using hb)
      · intro b hb; exact h.s0 b (by simpa using hb)
      · intro b hb; exact h.lo b (by simpa using hb)
theorem one_cell_of {B : Nat} {C : Cx} {l : Lay} {xs : List D} {cs : List Value} {K : List Nat} (h : Has B C (.sl l xs) cs K) : ∃ A, cs = [A] := by
  have := Tr_len h.tr
  match cs, this with
  | [A], _ => exact ⟨A, rfl⟩
theorem injs_take_get {ks : List T} {i : Nat} {u : T} (h : ks[i]? = some u) : injs (ks.take (i + 1)) = injs (ks.take i) ++ [inj u] := by
  rw [injs_map, injs_map, take_succ_get h]
  simp
/-- A term whose kids are a tree of their own. -/
theorem ow_T {B : Nat} {C : Cx} {L : Hp} {k m : Int} {s : ByteArray} {ks : List T} {A : Value} {K : List Nat} (h : Has B C (.sl LT (injs ks)) [A] K) : OwV B C L (.agg [.one, .one, .one, .one] [i64 k, st s, i64 m, .d (.c A)]) (inj (.mk k s m ks)) [] K := by
  have := OwV.agg (L := L) (.cons (f := .one) (OwV.c (B := B) (C := C) (L := L) (x := .int .i64 k)) (.cons (f := .one) (.c (x := .string s)) (.cons (f := .one) (.c (x := .int .i64 m)) (.cons (f := .one) (OwV.raw (l := .one) h rfl) .nil (by simp) (by simp)) (by simp) (by simp)) (by simp) (by simp)) (by simp) (by simp))
  simpa [rawV, inj] using this

mutual
/-- The numbers of the variables, as often as they stand there. -/
def vars : T → List Int
  | .mk k _ m ks => (if k = 1 then [m] else []) ++ varsL ks
def varsL : List T → List Int
  | [] => []
  | t :: r => vars t ++ varsL r
end
theorem varsL_take {ks : List T} {i : Nat} {u : T} (h : ks[i]? = some u) : varsL (ks.take (i + 1)) = varsL (ks.take i) ++ vars u := by
  rw [take_succ_get h]
  generalize ks.take i = l
  induction l with
  | nil => simp [varsL]
  | cons t r ih => simp [varsL, ih]
mutual
theorem vars_le : ∀ t : T, (vars t).length ≤ sz t
  | .mk k s m ks => by
    have := varsL_le ks
    simp only [vars, sz, List.length_append]
    split <;> simp <;> omega
theorem varsL_le : ∀ ks : List T, (varsL ks).length ≤ szs ks
  | [] => by simp [varsL]
  | t :: r => by
    have := vars_le t
    have := varsL_le r
    simp only [varsL, szs, List.length_append]
    omega
end
theorem szs_take_get {ks : List T} {i : Nat} {u : T} (h : ks[i]? = some u) : szs (ks.take i) + sz u ≤ szs ks := by
  induction ks generalizing i with
  | nil => simp at h
  | cons t r ih =>
    cases i with
    | zero => simp at h; subst h; simp [szs]
    | succ i => simp at h; have := ih h; simp only [List.take_succ_cons, szs]; omega

mutual
theorem rn_id : ∀ t : T, rn id t = t
  | .mk k s m ks => by simp only [rn, rnL_id ks]; split <;> rfl
theorem rnL_id : ∀ ks : List T, rnL id ks = ks
  | [] => rfl
  | t :: r => by simp only [rnL, rn_id t, rnL_id r]
end
/-- A clause: head, body, file. -/
structure Cl where
  h : T
  b : T
  f : ByteArray
abbrev LC : Lay := .st [LT, LT, .one]
def injC (c : Cl) : D := .agg [LT, LT, .one] [inj c.h, inj c.b, .c (.string c.f)]
@[simp] theorem injC_len (c : Cl) : (injC c).len? = 9 := rfl
@[simp] theorem injC_agg (c : Cl) : (injC c).isAgg = true := rfl
def neck : ByteArray := ⟨#[58, 45]⟩
/-- The clause as a term. -/
def Cl.term (c : Cl) : T := .mk 4 neck 0 [c.h, c.b]
mutual
/-- What the laws count of a term. -/
def bulk : T → Int
  | .mk _ s _ ks => s.size + bulkS ks
def bulkS : List T → Int
  | ks => ks.length + bulkL ks
def bulkL : List T → Int
  | [] => 0
  | t :: r => bulk t + bulkL r
end

theorem bulkS_eq (ks : List T) : bulkS ks = ks.length + bulkL ks := by cases ks <;> simp [bulkS]
mutual
theorem bulk_nn : ∀ t : T, 0 ≤ bulk t
  | .mk _ s _ ks => by
    have := bulkL_nn ks
    simp only [bulk, bulkS_eq]
    omega
theorem bulkL_nn : ∀ ks : List T, 0 ≤ bulkL ks
  | [] => by simp [bulkL]
  | t :: r => by
    have := bulk_nn t
    have := bulkL_nn r
    simp only [bulkL]
    omega
end
theorem bulkL_take {ks : List T} {i : Nat} {u : T} (h : ks[i]? = some u) : bulkL (ks.take (i + 1)) = bulkL (ks.take i) + bulk u := by
  rw [take_succ_get h]
  generalize ks.take i = l
  induction l with
  | nil => simp [bulkL]
  | cons t r ih => simp only [List.cons_append, bulkL, ih]; omega
theorem bulkL_take_le (ks : List T) (i : Nat) : bulkL (ks.take i) ≤ bulkL ks := by
  induction ks generalizing i with
  | nil => simp [bulkL]
  | cons t r ih => cases i with
    | zero => have := bulkL_nn (t :: r); simpa [bulkL] using this
    | succ i => have := ih i; simp only [List.take_succ_cons, bulkL]; omega
mutual
theorem sz_bulk : ∀ t : T, (sz t : Int) ≤ 1 + bulk t
  | .mk _ s _ ks => by
    have := szs_bulk ks
    simp only [sz, bulk, bulkS_eq]
    push_cast
    omega
theorem szs_bulk : ∀ ks : List T, (szs ks : Int) ≤ ks.length + bulkL ks
  | [] => by simp [szs, bulkL]
  | t :: r => by
    have := sz_bulk t
    have := szs_bulk r
    simp only [szs, bulkL, List.length_cons]
    push_cast
    omega
end
mutual
/-- The numbers of the variables, each once, behind a list. -/
def uV : List Int → T → List Int
  | out, .mk k _ m ks => uL (if k = 1 ∧ m ∉ out then out ++ [m] else out) ks
def uL : List Int → List T → List Int
  | out, [] => out
  | out, t :: r => uL (uV out t) r
end
theorem uL_take {ks : List T} {i : Nat} {u : T} {out : List Int} (h : ks[i]? = some u) : uL out (ks.take (i + 1)) = uV (uL out (ks.take i)) u := by
  rw [take_succ_get h]
  generalize ks.take i = l
  induction l generalizing out with
  | nil => simp [uL]
  | cons t r ih => simp only [List.cons_append, uL, ih]
mutual
theorem uV_le : ∀ (t : T) (out : List Int), (uV out t).length ≤ out.length + sz t
  | .mk k s m ks, out => by
    have := uL_le ks (if k = 1 ∧ m ∉ out then out ++ [m] else out)
    simp only [uV, sz]
    split at this <;> simp at this ⊢ <;> split <;> simp_all <;> omega
theorem uL_le : ∀ (ks : List T) (out : List Int), (uL out ks).length ≤ out.length + szs ks
  | [], out => by simp [uL, szs]
  | t :: r, out => by
    have := uV_le t out
    have := uL_le r (uV out t)
    simp only [uL, szs]
    omega
end

/-- A clause whose two terms are trees that stand apart. -/
theorem ow_C {C0 C C1 C2 : Cx} {L : Hp} {c : Cl} {A1 A2 : Value} {K1 K2 : List Nat} (g1 : Got C (inj c.h) LT C1 [.int .i64 c.h.kind, .string c.h.name, .int .i64 c.h.num, A1] K1) (g2 : Got C1 (inj c.b) LT C2 [.int .i64 c.b.kind, .string c.b.name, .int .i64 c.b.num, A2] K2) (hB : C0.w0.heap.size ≤ C.w0.heap.size) :
    OwV C0.w0.heap.size C2 L (.agg [LT, LT, .one] [rawV LT [.int .i64 c.h.kind, .string c.h.name, .int .i64 c.h.num, A1], rawV LT [.int .i64 c.b.kind, .string c.b.name, .int .i64 c.b.num, A2], st c.f]) (injC c) [] (K1 ++ (K2 ++ [])) := by
  have hB2 : C0.w0.heap.size ≤ C1.w0.heap.size := by have := g1.ext.pres.size; omega
  have hlt := Tr_lt _ _ _ g1.has.tr
  refine OwV.agg (I := [] ++ ([] ++ ([] ++ []))) (K := K1 ++ (K2 ++ ([] ++ []))) (.cons (OwV.raw ((g1.has.ext g2.ext).le hB) rfl) (.cons (OwV.raw (g2.has.le hB2) rfl) (.cons .c .nil (by simp) (by simp)) (by simp) (by simp)) (by simp) ?_)
  intro b hb hb2
  simp only [List.append_nil] at hb2
  have := hlt b hb
  have := g2.has.lo b hb2
  omega

/-- The numbers that stand nowhere else in the list, up to a place. -/
def sgl (all : List Int) : Nat → List Int
  | 0 => []
  | j + 1 => sgl all j ++ (match all[j]? with | some n => (if n ∉ all.take j ∧ n ∉ all.drop (j + 1) then [n] else []) | none => [])
theorem sgl_get {all : List Int} {j : Nat} {n : Int} (h : all[j]? = some n) : sgl all (j + 1) = sgl all j ++ (if n ∉ all.take j ∧ n ∉ all.drop (j + 1) then [n] else []) := by simp only [sgl, h]
theorem sgl_le (all : List Int) : ∀ j, (sgl all j).length ≤ j
  | 0 => by simp [sgl]
  | j + 1 => by
    have := sgl_le all j
    simp only [sgl, List.length_append]
    split <;> (try split) <;> simp <;> omega
/-- The numbers of a list that a term has once. -/
def ones (t : T) (vs : List Int) : List Int := vs.filter fun x => decide (times x t = 1)
theorem ones_take {t : T} {vs : List Int} {j : Nat} {n : Int} (h : vs[j]? = some n) : ones t (vs.take (j + 1)) = ones t (vs.take j) ++ (if times n t = 1 then [n] else []) := by
  rw [take_succ_get h]
  simp only [ones, List.filter_append, List.filter_cons, List.filter_nil]
  simp
theorem ones_le (t : T) (vs : List Int) : (ones t vs).length ≤ vs.length := List.length_filter_le _ _
end Go.Eng

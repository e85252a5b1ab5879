/- Lists of warnings: data, blocks, marks. -/
import Derived.Test.YtleahipnknainaaDoorOw
import Derived.Test.YtleahipnknainaaDoorWn
set_option linter.unusedVariables false
set_option linter.unusedSimpArgs false
namespace Go.Eng
def injWs (ws : List Wn) : List D := ws.map injW
@[simp] theorem injWs_length (ws : List Wn) : (injWs ws).length = ws.length := by simp [injWs]
theorem injWs_get {ws : List Wn} {j : Nat} {w : Wn} (h : ws[j]? = some w) : (injWs ws)[j]? = some (injW w) := by simp [injWs, h]
@[simp] theorem injW_lenL (w : Wn) : (injW w).len? = LW.len := by cases w; rfl
@[simp] theorem injW_agL (w : Wn) : LW.ag = (injW w).isAgg := by cases w; rfl
section
variable {P : Program} {C : Cx} {n : Nat} {f : Fr} {L : Hp}
/-- A thing built out of data is data. -/
theorem Ev_dagg {o : Oper} {fs : List Lay} {ds : List D} (h : Ev P C n o f L (.agg fs (ds.map V.d))) : Ev P C n o f L (.d (.agg fs ds)) := by
  intro a w β S hr
  obtain ⟨x, h1, h2⟩ := h a w β S hr
  refine ⟨x, h1, ?_⟩
  rcases h2 with h2 | ⟨h2, h3⟩
  · cases h2
  · refine .inr ⟨?_, h3⟩
    simp only [VC, DC] at h2 ⊢
    exact (VCs_dc ds fs _).1 h2
end
theorem injWs_flat : ∀ ws : List Wn, D.flats (injWs ws) = true
  | [] => rfl
  | w :: r => by
    have := injWs_flat r
    simp only [injWs, List.map_cons, D.flats, Bool.and_eq_true] at this ⊢
    exact ⟨rfl, this⟩
/-- The cells of warnings. -/
def rowsW : List Wn → List Value
  | [] => []
  | w :: r => vi w.k :: vi w.a :: vs w.t :: rowsW r
theorem rowsW_length : ∀ ws : List Wn, (rowsW ws).length = 3 * ws.length
  | [] => rfl
  | w :: r => by simp [rowsW, rowsW_length r]; omega
theorem rowsW_app (a b : List Wn) : rowsW (a ++ b) = rowsW a ++ rowsW b := by
  induction a with
  | nil => rfl
  | cons w r ih => simp [rowsW, ih]
/-- The marks of warnings, from one on. -/
def marksW (k : Int) : Nat → List Wn
  | 0 => []
  | n + 1 => ⟨k, k + 1, mtext (k + 2)⟩ :: marksW (k + 3) n
@[simp] theorem marksW_length : ∀ (n : Nat) (k : Int), (marksW k n).length = n
  | 0, _ => rfl
  | n + 1, k => by simp [marksW, marksW_length n]
theorem marksW_get : ∀ (n j : Nat) (k : Int), j < n → (marksW k n)[j]? = some ⟨k + 3 * j, k + 3 * j + 1, mtext (k + 3 * j + 2)⟩
  | 0, j, k, h => by omega
  | n + 1, 0, k, h => by simp [marksW]
  | n + 1, j + 1, k, h => by
    have := marksW_get n j (k + 3) (by omega)
    rw [show k + 3 + 3 * (j : Int) = k + 3 * ((j + 1 : Nat) : Int) by push_cast; omega] at this
    simpa [marksW] using this
theorem marksW_succ : ∀ (j : Nat) (k : Int), marksW k (j + 1) = marksW k j ++ [⟨k + 3 * j, k + 3 * j + 1, mtext (k + 3 * j + 2)⟩]
  | 0, k => by simp [marksW]
  | j + 1, k => by
    have := marksW_succ j (k + 3)
    rw [marksW, this]
    simp only [marksW, List.cons_append]
    rw [show k + 3 + 3 * (j : Int) = k + 3 * ((j + 1 : Nat) : Int) by push_cast; omega]
theorem Trs_warns {w : World} : ∀ (xs : List Wn) (cs : List Value) (K : List Nat), Trs w (List.replicate xs.length LW) (injWs xs) cs K → cs = rowsW xs ∧ K = []
  | [], cs, K, h => by
    simp only [injWs, List.map_nil, Trs] at h
    exact ⟨by simpa [rowsW] using h.2.1, h.2.2⟩
  | x :: xs, cs, K, h => by
    obtain ⟨k, a, t⟩ := x
    simp only [injWs, List.map_cons, List.length_cons, List.replicate_succ, Trs] at h
    obtain ⟨f, fr, c1, c2, M1, M2, e, rfl, h3, rfl, h5, h6, h7⟩ := h
    injection e with e1 e2
    subst e1; subst e2
    obtain ⟨q1, q2⟩ := Trs_warns xs c2 M2 h7
    simp only [injW, Tr] at h6
    obtain ⟨f1, r1, a1, b1, N1, O1, e1, rfl, _, rfl, _, t1, u1⟩ := Trs_cons.1 h6
    obtain ⟨f2, r2, a2, b2, N2, O2, e2, rfl, _, rfl, _, t2, u2⟩ := Trs_cons.1 u1
    obtain ⟨f3, r3, a3, b3, N3, O3, e3, rfl, _, rfl, _, t3, u3⟩ := Trs_cons.1 u2
    unfold Trs at u3
    obtain ⟨_, rfl, rfl⟩ := u3
    obtain ⟨rfl, _, rfl⟩ := Tr_c.1 t1
    obtain ⟨rfl, _, rfl⟩ := Tr_c.1 t2
    obtain ⟨rfl, _, rfl⟩ := Tr_c.1 t3
    subst q1; subst q2
    exact ⟨rfl, rfl⟩
theorem warns_Trs {w : World} : ∀ (xs : List Wn), Trs w (List.replicate xs.length LW) (injWs xs) (rowsW xs) []
  | [] => by simp [injWs, rowsW, Trs]
  | x :: xs => by
    obtain ⟨k, a, t⟩ := x
    simp only [injWs, List.map_cons, List.length_cons, List.replicate_succ]
    refine Trs_cons.2 ⟨_, _, [vi k, vi a, vs t], rowsW xs, [], [], rfl, rfl, rfl, rfl, by simp, ?_, warns_Trs xs⟩
    simp only [injW, Tr]
    refine Trs_cons.2 ⟨_, _, [vi k], [vi a, vs t], [], [], rfl, rfl, rfl, rfl, by simp, Tr_c.2 ⟨rfl, rfl, rfl⟩, ?_⟩
    refine Trs_cons.2 ⟨_, _, [vi a], [vs t], [], [], rfl, rfl, rfl, rfl, by simp, Tr_c.2 ⟨rfl, rfl, rfl⟩, ?_⟩
    refine Trs_cons.2 ⟨_, _, [vs t], [], [], [], rfl, rfl, rfl, rfl, by simp, Tr_c.2 ⟨rfl, rfl, rfl⟩, ?_⟩
    unfold Trs
    exact ⟨rfl, rfl, rfl⟩
theorem rowsW_set0 (xs : List Wn) (w : Wn) (ys : List Wn) (tail : List Value) (q : Int) : (rowsW (xs ++ w :: ys) ++ tail).set (3 * xs.length + 0) (vi q) = rowsW (xs ++ ⟨q, w.a, w.t⟩ :: ys) ++ tail := by
  rw [rowsW_app, rowsW_app, List.append_assoc, List.append_assoc, List.set_append_right _ _ (by rw [rowsW_length]; omega), rowsW_length]
  simp [rowsW]
theorem rowsW_set1 (xs : List Wn) (w : Wn) (ys : List Wn) (tail : List Value) (q : Int) : (rowsW (xs ++ w :: ys) ++ tail).set (3 * xs.length + 1) (vi q) = rowsW (xs ++ ⟨w.k, q, w.t⟩ :: ys) ++ tail := by
  rw [rowsW_app, rowsW_app, List.append_assoc, List.append_assoc, List.set_append_right _ _ (by rw [rowsW_length]; omega), rowsW_length]
  simp [rowsW]
theorem rowsW_set2 (xs : List Wn) (w : Wn) (ys : List Wn) (tail : List Value) (s : ByteArray) : (rowsW (xs ++ w :: ys) ++ tail).set (3 * xs.length + 2) (vs s) = rowsW (xs ++ ⟨w.k, w.a, s⟩ :: ys) ++ tail := by
  rw [rowsW_app, rowsW_app, List.append_assoc, List.append_assoc, List.set_append_right _ _ (by rw [rowsW_length]; omega), rowsW_length]
  simp [rowsW]
/-- A list of warnings that stands apart, opened. -/
theorem open_warns {B : Nat} {C : Cx} {xs : List Wn} {cs : List Value} {K : List Nat} (h : Has B C (.sl LW (injWs xs)) cs K) :
    (cs = [.slice none 0 0] ∧ xs = [] ∧ K = []) ∨ ∃ b Cp tail ty, K = [b] ∧ cs = [rawS b xs.length Cp] ∧ Blk C b (rowsW xs ++ tail) ty ∧ (rowsW xs ++ tail).length = Cp * 3 ∧ xs.length ≤ Cp ∧ Cp ≤ maxLen ∧ xs.length ≤ lim := by
  have ht := h.tr
  unfold Tr at ht
  simp only [injWs_length] at ht
  rcases ht with ⟨h1, h2, h3⟩ | ⟨b, Cp, cur, ty, vs, M', rfl, h2, h3, h4, h5, h6, h7, h8, h9, h10⟩
  · exact .inl ⟨h1, by simpa [injWs] using h2, h3⟩
  · obtain ⟨rfl, rfl⟩ := Trs_warns xs vs M' h9
    have hrl := rowsW_length xs
    have hcur : cur.toList = rowsW xs ++ cur.toList.drop (3 * xs.length) := by
      have : cur.toList.take (3 * xs.length) = rowsW xs := by
        apply List.ext_getElem?
        intro i
        by_cases hi : i < 3 * xs.length
        · rw [List.getElem?_take_of_lt hi, List.getElem?_eq_getElem (show i < (rowsW xs).length by omega)]
          have := h10 i (rowsW xs)[i] (by simp)
          rw [Array.getElem?_toList, this]
        · rw [List.getElem?_eq_none (by simp; omega), List.getElem?_eq_none (by omega)]
      rw [← this, List.take_append_drop]
    refine .inr ⟨b, Cp, cur.toList.drop (3 * xs.length), ty, rfl, h3, ⟨?_, h.dm b (by simp), h.s0 b (by simp)⟩, ?_, h6, h7, h8⟩
    · rw [← hcur]; simpa using h4
    · rw [← hcur]; simpa [Lay.len, Lay.lens] using h5
theorem close_warns {C : Cx} {ys : List Wn} {b Cp : Nat} {tail : List Value} {ty : TypeId} (hb : Blk C b (rowsW ys ++ tail) ty) (hl : (rowsW ys ++ tail).length = Cp * 3) (h1 : ys.length ≤ Cp) (h2 : Cp ≤ maxLen) (h3 : ys.length ≤ lim) : Has 0 C (.sl LW (injWs ys)) [rawS b ys.length Cp] [b] := by
  refine ⟨?_, fun b' hb' => by rw [List.mem_singleton] at hb'; rw [hb']; exact hb.dm, fun b' hb' => by rw [List.mem_singleton] at hb'; rw [hb']; exact hb.s0, fun _ _ => Nat.zero_le _⟩
  unfold Tr
  simp only [injWs_length]
  refine .inr ⟨b, Cp, _, ty, rowsW ys, [], rfl, by simp, rfl, hb.hp, by simp only [Lay.len, Lay.lens]; simpa using hl, h1, h2, h3, warns_Trs ys, fun j x hx => ?_⟩
  have hj := lt_of_get hx
  simp only [List.getElem?_toArray]
  rw [List.getElem?_append_left hj]
  exact hx
/-- Clauses of one predicate that stand apart. -/
def apartAt (cs : List Cl) (j : Nat) (p : ByteArray) : Bool := (cs.take j).any (fun c => decide (predS c.h = p)) && !decide (((cs[j - 1]?).map fun c => predS c.h) = some p)
def apartF (cs : List Cl) : Nat → List Wn
  | 0 => []
  | j + 1 => match cs[j]? with
    | none => apartF cs j
    | some c => if apartAt cs j (predS c.h) then apartF cs j ++ [⟨2, j, predS c.h⟩] else apartF cs j
theorem apartF_len (cs : List Cl) : ∀ j, (apartF cs j).length ≤ j
  | 0 => by simp [apartF]
  | j + 1 => by
    have := apartF_len cs j
    simp only [apartF]
    split
    · omega
    · split <;> simp <;> omega
theorem apartF_t {cs : List Cl} {j : Nat} {u : Cl} (hu : cs[j]? = some u) (h : apartAt cs j (predS u.h) = true) : apartF cs (j + 1) = apartF cs j ++ [⟨2, j, predS u.h⟩] := by
  simp only [apartF, hu, if_pos h]
theorem apartF_f {cs : List Cl} {j : Nat} {u : Cl} (hu : cs[j]? = some u) (h : apartAt cs j (predS u.h) = false) : apartF cs (j + 1) = apartF cs j := by
  simp only [apartF, hu, h]; simp
theorem predsF_snoc (cs : List Cl) (c : Cl) : ∀ out, predsF (cs ++ [c]) out = onceL (predsF cs out) (predS c.h) := by
  induction cs with
  | nil => intro out; rfl
  | cons d r ih => intro out; simp only [List.cons_append, predsF]; exact ih _
theorem predsF_has (cs : List Cl) (p : ByteArray) : ∀ out, hasS (predsF cs out) p = (hasS out p || cs.any fun c => decide (predS c.h = p)) := by
  induction cs with
  | nil => intro out; simp [predsF]
  | cons d r ih =>
    intro out
    rw [predsF, ih, List.any_cons, ← Bool.or_assoc]
    congr 1
    rw [Bool.eq_iff_iff]
    simp only [hasS_iff, onceL_mem, Bool.or_eq_true, decide_eq_true_eq]
    exact or_congr Iff.rfl eq_comm
/-- What is missing, clause by clause. -/
def wmC (d : Dbt) (i : Nat) : List ByteArray → List Wn
  | [] => []
  | p :: r => (if knownB d p = true then [] else [⟨3, i, p⟩]) ++ wmC d i r
def wmF (d : Dbt) : Nat → List Cl → List Wn
  | _, [] => []
  | i, c :: r => wmC d i (callsIn c.b) ++ wmF d (i + 1) r
theorem wmC_len (d : Dbt) (i : Nat) (ps : List ByteArray) : (wmC d i ps).length ≤ ps.length := by
  induction ps with
  | nil => simp [wmC]
  | cons p r ih => simp only [wmC]; split <;> simp <;> omega
theorem wmF_len (d : Dbt) (cs : List Cl) : ∀ i, (wmF d i cs).length ≤ wC cs := by
  induction cs with
  | nil => intro i; simp [wmF]
  | cons c r ih =>
    intro i
    have := ih (i + 1)
    have := wmC_len d i (callsIn c.b)
    simp only [wmF, wC, List.length_append]; omega
end Go.Eng

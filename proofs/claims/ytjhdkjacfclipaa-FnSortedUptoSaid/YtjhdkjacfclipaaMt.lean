/- Marks in terms: what they write, and the trees of kids. -/
import Derived.Test.YtjhdkjacfclipaaTm
set_option linter.unusedVariables false
set_option linter.unusedSimpArgs false
namespace Go.Eng

mutual
/-- How many numbers a mark of a term uses up. -/
def cntT : T → Int
  | .mk _ _ _ ks => 3 + cntL ks
def cntL : List T → Int
  | [] => 0
  | t :: r => cntT t + cntL r
end
mutual
/-- A term that has been marked from a number on. -/
def mkT : Int → T → T
  | k, .mk _ _ _ ks => .mk k (mtext (k + 1)) (k + 2) (mkL (k + 3) ks)
def mkL : Int → List T → List T
  | _, [] => []
  | k, t :: r => mkT k t :: mkL (k + cntT t) r
end
@[simp] theorem mkL_length : ∀ (ks : List T) (k : Int), (mkL k ks).length = ks.length
  | [], k => by simp [mkL]
  | t :: r, k => by simp [mkL, mkL_length r]
theorem mkL_get : ∀ (ks : List T) (k : Int) (j : Nat) (u : T), ks[j]? = some u → (mkL k ks)[j]? = some (mkT (k + cntL (ks.take j)) u)
  | [], k, j, u, h => by simp at h
  | t :: r, k, 0, u, h => by simp at h; subst h; simp [mkL, cntL]
  | t :: r, k, j + 1, u, h => by
    simp at h
    simp only [mkL, List.getElem?_cons_succ, List.take_succ_cons, cntL]
    rw [mkL_get r _ j u h, Int.add_assoc]
theorem cntL_take {ks : List T} {i : Nat} {u : T} (h : ks[i]? = some u) : cntL (ks.take (i + 1)) = cntL (ks.take i) + cntT u := by
  rw [take_succ_get h]
  generalize ks.take i = l
  induction l with
  | nil => simp [cntL]
  | cons t r ih => simp only [List.cons_append, cntL, ih]; omega
mutual
theorem cntT_nn : ∀ t : T, 3 ≤ cntT t
  | .mk _ _ _ ks => by have := cntL_nn ks; simp only [cntT]; omega
theorem cntL_nn : ∀ ks : List T, 0 ≤ cntL ks
  | [] => by simp [cntL]
  | t :: r => by have := cntT_nn t; have := cntL_nn r; simp only [cntL]; omega
end
theorem cntL_take_le (ks : List T) (i : Nat) : cntL (ks.take i) ≤ cntL ks := by
  induction ks generalizing i with
  | nil => simp [cntL]
  | cons t r ih => cases i with
    | zero => have := cntL_nn (t :: r); simpa [cntL] using this
    | succ i => have := ih i; simp only [List.take_succ_cons, cntL]; omega
mutual
theorem cntT_sz : ∀ t : T, cntT t = 3 * sz t
  | .mk _ _ _ ks => by have := cntL_sz ks; simp only [cntT, sz]; push_cast; omega
theorem cntL_sz : ∀ ks : List T, cntL ks = 3 * szs ks
  | [] => by simp [cntL, szs]
  | t :: r => by have := cntT_sz t; have := cntL_sz r; simp only [cntL, szs]; push_cast; omega
end

/-- The cells of a row of terms, the kids' slices given. -/
def rowsL : List T → List Value → List Value
  | t :: ts, A :: As => vi t.kind :: .string t.name :: vi t.num :: A :: rowsL ts As
  | _, _ => []
theorem rowsL_length : ∀ (ts : List T) (As : List Value), As.length = ts.length → (rowsL ts As).length = 4 * ts.length
  | [], As, h => by simp [rowsL]
  | t :: ts, [], h => by simp at h
  | t :: ts, A :: As, h => by
    simp at h
    simp only [rowsL, List.length_cons, rowsL_length ts As h]
    omega
theorem rows_set : ∀ (xs : List T) (t t' : T) (ys : List T) (As : List Value) (tail : List Value) (o : Nat) (v : Value), As.length = (xs ++ t :: ys).length →
    (∀ (A : Value) (r : List Value), (vi t.kind :: .string t.name :: vi t.num :: A :: r).set o v = vi t'.kind :: .string t'.name :: vi t'.num :: A :: r) →
    (rowsL (xs ++ t :: ys) As ++ tail).set (4 * xs.length + o) v = rowsL (xs ++ t' :: ys) As ++ tail
  | [], t, t', ys, [], tail, o, v, h, _ => by simp at h
  | [], t, t', ys, A :: As, tail, o, v, h, ho => by
    simp only [List.nil_append, rowsL, List.cons_append, List.length_nil, Nat.mul_zero, Nat.zero_add]
    exact ho A _
  | x :: xs, t, t', ys, [], tail, o, v, h, _ => by simp at h
  | x :: xs, t, t', ys, A :: As, tail, o, v, h, ho => by
    have := rows_set xs t t' ys As tail o v (by simpa using h) ho
    simp only [List.cons_append, rowsL, List.length_cons]
    rw [show 4 * (xs.length + 1) + o = (4 * xs.length + o) + 4 by omega]
    simp only [List.set_cons_succ]
    rw [this]
theorem rows_kids : ∀ (xs : List T) (t : T) (ys : List T) (As : List Value) (tail : List Value) (A : Value), As[xs.length]? = some A → (rowsL (xs ++ t :: ys) As ++ tail)[4 * xs.length + 3]? = some A
  | [], t, ys, [], tail, A, h => by simp at h
  | [], t, ys, B :: As, tail, A, h => by simp at h; subst h; simp [rowsL]
  | x :: xs, t, ys, [], tail, A, h => by simp at h
  | x :: xs, t, ys, B :: As, tail, A, h => by
    have := rows_kids xs t ys As tail A (by simpa using h)
    simp only [List.cons_append, rowsL, List.length_cons]
    rw [show 4 * (xs.length + 1) + 3 = (4 * xs.length + 3) + 4 by omega]
    simpa only [List.getElem?_cons_succ] using this

def kidsD (ts : List T) : List D := ts.map fun t => .sl LT (injs t.kids)
theorem kids_step {w : World} {u : T} {ys : List T} : ∀ (xs : List T) (As : List Value) (K : List Nat), Trs w (List.replicate (xs ++ u :: ys).length .one) (kidsD (xs ++ u :: ys)) As K →
    ∃ A Kj, As[xs.length]? = some A ∧ Tr w (.sl LT (injs u.kids)) [A] Kj ∧ (∀ b ∈ Kj, b ∈ K) ∧ ∀ (w' : World) (u' : T), (∀ b ∈ K, b ∉ Kj → w'.heap[b]? = w.heap[b]?) → Tr w' (.sl LT (injs u'.kids)) [A] Kj → Trs w' (List.replicate (xs ++ u' :: ys).length .one) (kidsD (xs ++ u' :: ys)) As K
  | [], As, K, h => by
    simp only [List.nil_append, kidsD, List.map_cons, List.length_cons, List.replicate_succ] at h
    unfold Trs at h
    obtain ⟨f, fr, c1, c2, M1, M2, e, rfl, h3, rfl, h5, h6, h7⟩ := h
    injection e with e1 e2
    subst e1; subst e2
    match c1, h3 with
    | [A], _ =>
      refine ⟨A, M1, rfl, h6, fun b hb => by simp [hb], fun w' u' hw h' => ?_⟩
      simp only [List.nil_append, kidsD, List.map_cons, List.length_cons, List.replicate_succ]
      unfold Trs
      exact ⟨_, _, [A], c2, M1, M2, rfl, rfl, rfl, rfl, h5, h', Trs_keep _ _ _ _ (fun b hb => hw b (by simp [hb]) fun h8 => h5 b h8 hb) h7⟩
  | x :: xs, As, K, h => by
    simp only [List.cons_append, kidsD, List.map_cons, List.length_cons, List.replicate_succ] at h
    unfold Trs at h
    obtain ⟨f, fr, c1, c2, M1, M2, e, rfl, h3, rfl, h5, h6, h7⟩ := h
    injection e with e1 e2
    subst e1; subst e2
    match c1, h3 with
    | [B], _ =>
      obtain ⟨A, Kj, k1, k2, k3, k4⟩ := kids_step xs c2 M2 h7
      refine ⟨A, Kj, by simpa using k1, k2, fun b hb => by simp [k3 b hb], fun w' u' hw h' => ?_⟩
      simp only [List.cons_append, kidsD, List.map_cons, List.length_cons, List.replicate_succ]
      unfold Trs
      exact ⟨_, _, [B], c2, M1, M2, rfl, rfl, rfl, rfl, h5, Tr_keep _ _ _ (fun b hb => hw b (by simp [hb]) fun h8 => h5 b hb (k3 b h8)) h6, k4 w' u' (fun b hb hn => hw b (by simp [hb]) hn) h'⟩

/-- The trees of the kids of a row of terms. -/
structure HasK (C : Cx) (ts : List T) (As : List Value) (K : List Nat) : Prop where
  tr : Trs C.w0 (List.replicate ts.length .one) (kidsD ts) As K
  dm : ∀ b ∈ K, ¬ C.Dm b
  s0 : ∀ b ∈ K, ¬ C.S0 b
theorem HasK.marked {C C' : Cx} {ts : List T} {As : List Value} {K K' : List Nat} (k : HasK C ts As K) (h : Mk C K' C') (hd : ∀ b ∈ K, b ∉ K') : HasK C' ts As K := by
  have hlt := Trs_lt _ _ _ _ k.tr
  refine ⟨Trs_keep _ _ _ _ (fun b hb => h.pres.block b (hlt b hb) fun h1 => h1.elim (k.dm b hb) (hd b hb)) k.tr, fun b hb h1 => ?_, fun b hb h1 => ?_⟩
  · rcases h.dm b h1 with h2 | h2
    · exact k.dm b hb h2
    · have := hlt b hb; omega
  · rcases h.fz b h1 with h2 | h2 | h2
    · exact k.s0 b hb h2
    · have := hlt b hb; omega
    · exact k.dm b hb h2
theorem HasK.step {C : Cx} {xs : List T} {u : T} {ys : List T} {As : List Value} {K : List Nat} (k : HasK C (xs ++ u :: ys) As K) :
    ∃ A Kj, As[xs.length]? = some A ∧ Has 0 C (.sl LT (injs u.kids)) [A] Kj ∧ (∀ b ∈ Kj, b ∈ K) ∧ ∀ (C' : Cx) (u' : T), Mk C Kj C' → Has 0 C' (.sl LT (injs u'.kids)) [A] Kj → HasK C' (xs ++ u' :: ys) As K := by
  obtain ⟨A, Kj, k1, k2, k3, k4⟩ := kids_step xs As K k.tr
  have hlt := Trs_lt _ _ _ _ k.tr
  refine ⟨A, Kj, k1, ⟨k2, fun b hb => k.dm b (k3 b hb), fun b hb => k.s0 b (k3 b hb), fun _ _ => Nat.zero_le _⟩, k3, fun C' u' hm h' => ⟨k4 C'.w0 u' (fun b hb hn => hm.pres.block b (hlt b hb) fun h1 => h1.elim (k.dm b hb) hn) h'.tr, fun b hb h1 => ?_, fun b hb h1 => ?_⟩⟩
  · rcases hm.dm b h1 with h2 | h2
    · exact k.dm b hb h2
    · have := hlt b hb; omega
  · rcases hm.fz b h1 with h2 | h2 | h2
    · exact k.s0 b hb h2
    · have := hlt b hb; omega
    · exact k.dm b hb h2

theorem Tr_c {w : World} {x : Value} {cs : List Value} {M : List Nat} : Tr w (.c x) cs M ↔ cs = [x] ∧ Value.scalar x = true ∧ M = [] := by simp only [Tr]
theorem Trs_cons {w : World} {fs : List Lay} {d : D} {ds : List D} {cs : List Value} {M : List Nat} : Trs w fs (d :: ds) cs M ↔ ∃ f fr c1 c2 M1 M2, fs = f :: fr ∧ cs = c1 ++ c2 ∧ c1.length = f.len ∧ M = M1 ++ M2 ∧ (∀ b ∈ M1, b ∉ M2) ∧ Tr w d c1 M1 ∧ Trs w fr ds c2 M2 := by
  constructor
  · intro h; unfold Trs at h; exact h
  · intro h; unfold Trs; exact h
theorem Tr_term {w : World} {k m : Int} {s : ByteArray} {ks : List T} {cs : List Value} {M : List Nat} : Tr w (inj (.mk k s m ks)) cs M ↔ ∃ A, cs = [vi k, .string s, vi m, A] ∧ Tr w (.sl LT (injs ks)) [A] M := by
  constructor
  · intro h
    unfold inj Tr at h
    simp only [Trs_cons, Tr_c] at h
    obtain ⟨f1, r1, d1, x1, N1, P1, e1, rfl, l1, rfl, a1, ⟨rfl, _, rfl⟩, f2, r2, d2, x2, N2, P2, rfl, rfl, l2, rfl, a2, ⟨rfl, _, rfl⟩, f3, r3, d3, x3, N3, P3, rfl, rfl, l3, rfl, a3, ⟨rfl, _, rfl⟩, f4, r4, d4, x4, N4, P4, rfl, rfl, l4, rfl, a4, h4, h5⟩ := h
    unfold Trs at h5
    obtain ⟨rfl, rfl, rfl⟩ := h5
    injection e1 with e1 e2
    injection e2 with e2 e3
    injection e3 with e3 e4
    injection e4 with e4 e5
    subst e4
    match d4, l4 with
    | [A], _ => exact ⟨A, rfl, by simpa only [List.append_nil, List.nil_append] using h4⟩
  · rintro ⟨A, rfl, h⟩
    unfold inj Tr
    simp only [Trs_cons, Tr_c]
    refine ⟨_, _, [vi k], [.string s, vi m, A], [], M, rfl, rfl, rfl, rfl, by simp, ⟨rfl, rfl, rfl⟩, _, _, [.string s], [vi m, A], [], M, rfl, rfl, rfl, rfl, by simp, ⟨rfl, rfl, rfl⟩, _, _, [vi m], [A], [], M, rfl, rfl, rfl, rfl, by simp, ⟨rfl, rfl, rfl⟩, _, _, [A], [], M, [], rfl, rfl, rfl, by simp, by simp, h, ?_⟩
    unfold Trs
    exact ⟨rfl, rfl, rfl⟩
theorem Trs_terms {w : World} : ∀ (ts : List T) (cs : List Value) (K : List Nat), Trs w (List.replicate ts.length LT) (injs ts) cs K ↔ ∃ As, As.length = ts.length ∧ cs = rowsL ts As ∧ Trs w (List.replicate ts.length .one) (kidsD ts) As K
  | [], cs, K => by
    simp only [injs, kidsD, List.map_nil, List.length_nil, List.replicate_zero, Trs, rowsL]
    constructor
    · rintro ⟨_, h2, h3⟩; exact ⟨[], rfl, h2, trivial, rfl, h3⟩
    · rintro ⟨As, h1, h2, _, _, h3⟩; exact ⟨trivial, h2, h3⟩
  | t :: ts, cs, K => by
    have ih := fun cs K => Trs_terms (w := w) ts cs K
    cases t with
    | mk k s m ks =>
      simp only [injs, kidsD, List.map_cons, List.length_cons, List.replicate_succ]
      constructor
      · intro h
        obtain ⟨f, fr, c1, c2, M1, M2, e, rfl, h3, rfl, h5, h6, h7⟩ := Trs_cons.1 h
        injection e with e1 e2
        subst e1; subst e2
        obtain ⟨A, rfl, h4⟩ := Tr_term.1 h6
        obtain ⟨As, q1, q2, q3⟩ := (ih c2 M2).1 h7
        exact ⟨A :: As, by simp [q1], by simp [rowsL, q2, T.kind, T.name, T.num], Trs_cons.2 ⟨_, _, [A], As, M1, M2, rfl, rfl, rfl, rfl, h5, h4, q3⟩⟩
      · rintro ⟨As, h1, rfl, h⟩
        obtain ⟨f, fr, c1, c2, M1, M2, e, rfl, h3, rfl, h5, h6, h7⟩ := Trs_cons.1 h
        injection e with e1 e2
        subst e1; subst e2
        match c1, h3 with
        | [A], _ =>
          exact Trs_cons.2 ⟨_, _, [vi k, .string s, vi m, A], rowsL ts c2, M1, M2, rfl, by simp [rowsL, T.kind, T.name, T.num], rfl, rfl, h5, Tr_term.2 ⟨A, rfl, h6⟩, (ih _ M2).2 ⟨c2, by simpa using h1, rfl, h7⟩⟩

/-- A list of terms that stands apart, opened. -/
theorem open_terms {B : Nat} {C : Cx} {ts : List T} {cs : List Value} {K : List Nat} (h : Has B C (.sl LT (injs ts)) cs K) :
    (cs = [.slice none 0 0] ∧ ts = [] ∧ K = []) ∨ ∃ b Cp tail ty As K', K = b :: K' ∧ b ∉ K' ∧ cs = [rawS b ts.length Cp] ∧ Blk C b (rowsL ts As ++ tail) ty ∧ As.length = ts.length ∧ HasK C ts As K' ∧ (rowsL ts As ++ tail).length = Cp * 4 ∧ ts.length ≤ Cp ∧ Cp ≤ maxLen ∧ ts.length ≤ lim := by
  have ht := h.tr
  unfold Tr at ht
  simp only [injs_length] at ht
  rcases ht with ⟨h1, h2, h3⟩ | ⟨b, Cp, cur, ty, vs, M', rfl, h2, h3, h4, h5, h6, h7, h8, h9, h10⟩
  · refine .inl ⟨h1, ?_, h3⟩
    rw [injs_map] at h2
    simpa using h2
  · obtain ⟨As, q1, rfl, q3⟩ := (Trs_terms ts vs M').1 h9
    have hl := rowsL_length ts As q1
    have hcur : cur.toList = rowsL ts As ++ cur.toList.drop (rowsL ts As).length := by
      have : cur.toList.take (rowsL ts As).length = rowsL ts As := by
        apply List.ext_getElem?
        intro i
        by_cases hi : i < (rowsL ts As).length
        · rw [List.getElem?_take_of_lt hi]
          have := h10 i (rowsL ts As)[i] (by simp [hi])
          rw [Array.getElem?_toList, this]
          simp [hi]
        · rw [List.getElem?_eq_none (by simp; omega), List.getElem?_eq_none (by omega)]
      conv => lhs; rw [← List.take_append_drop (rowsL ts As).length cur.toList, this]
    refine .inr ⟨b, Cp, cur.toList.drop (rowsL ts As).length, ty, As, M', rfl, h2, h3, ⟨?_, h.dm b (by simp), h.s0 b (by simp)⟩, q1, ⟨q3, fun b' hb => h.dm b' (by simp [hb]), fun b' hb => h.s0 b' (by simp [hb])⟩, ?_, h6, h7, h8⟩
    · rw [← hcur]; simpa using h4
    · rw [← hcur]; simpa [Lay.len, Lay.lens] using h5
theorem close_terms {C : Cx} {ts : List T} {b Cp : Nat} {As tail : List Value} {ty : TypeId} {K' : List Nat} (hn : b ∉ K') (hb : Blk C b (rowsL ts As ++ tail) ty) (hA : As.length = ts.length) (hk : HasK C ts As K') (hl : (rowsL ts As ++ tail).length = Cp * 4) (h1 : ts.length ≤ Cp) (h2 : Cp ≤ maxLen) (h3 : ts.length ≤ lim) : Has 0 C (.sl LT (injs ts)) [rawS b ts.length Cp] (b :: K') := by
  refine ⟨?_, ?_, ?_, fun _ _ => Nat.zero_le _⟩
  · unfold Tr
    simp only [injs_length]
    refine .inr ⟨b, Cp, _, ty, rowsL ts As, K', rfl, hn, rfl, hb.hp, by simpa [Lay.len, Lay.lens] using hl, h1, h2, h3, (Trs_terms ts _ K').2 ⟨As, hA, rfl, hk.tr⟩, fun j x hx => ?_⟩
    have hj := lt_of_get hx
    simp only [List.getElem?_toArray]
    rw [List.getElem?_append_left hj]
    exact hx
  · intro b' hb'
    rcases List.mem_cons.1 hb' with rfl | h
    · exact hb.dm
    · exact hk.dm b' h
  · intro b' hb'
    rcases List.mem_cons.1 hb' with rfl | h
    · exact hb.s0
    · exact hk.s0 b' h
theorem Blk.cast {C : Cx} {b : Nat} {cur cur' : List Value} {ty : TypeId} (h : Blk C b cur ty) (e : cur = cur') : Blk C b cur' ty := e ▸ h
theorem rows_kids_eq : ∀ (xs : List T) (t t' : T) (ys : List T) (As tail : List Value), t.kind = t'.kind → t.name = t'.name → t.num = t'.num → rowsL (xs ++ t :: ys) As ++ tail = rowsL (xs ++ t' :: ys) As ++ tail
  | [], t, t', ys, [], tail, _, _, _ => by simp [rowsL]
  | [], t, t', ys, A :: As, tail, h1, h2, h3 => by simp [rowsL, h1, h2, h3]
  | x :: xs, t, t', ys, [], tail, _, _, _ => by simp [rowsL]
  | x :: xs, t, t', ys, A :: As, tail, h1, h2, h3 => by
    have := rows_kids_eq xs t t' ys As tail h1 h2 h3
    simp only [List.cons_append, rowsL]
    rw [this]

/-- A term whose kids have been marked. -/
def mkK (k : Int) (t : T) : T := .mk t.kind t.name t.num (mkL k t.kids)
theorem has_term {B : Nat} {C : Cx} {k m : Int} {s : ByteArray} {ks : List T} {A : Value} {K : List Nat} (h : Has B C (.sl LT (injs ks)) [A] K) : Has B C (inj (.mk k s m ks)) [vi k, .string s, vi m, A] K :=
  ⟨Tr_term.2 ⟨A, rfl, h.tr⟩, h.dm, h.s0, h.lo⟩
theorem C_cells {B : Nat} {C : Cx} {c : Cl} {cs : List Value} {K : List Nat} (h : Has B C (injC c) cs K) : ∃ A1 A2 K1 K2, cs = [vi c.h.kind, .string c.h.name, vi c.h.num, A1, vi c.b.kind, .string c.b.name, vi c.b.num, A2, .string c.f] ∧ K = K1 ++ K2 ∧ (∀ b ∈ K1, b ∉ K2) ∧
    Has B C (inj c.h) [vi c.h.kind, .string c.h.name, vi c.h.num, A1] K1 ∧ Has B C (inj c.b) [vi c.b.kind, .string c.b.name, vi c.b.num, A2] K2 := by
  have ht := h.tr
  unfold injC Tr at ht
  simp only [Trs_cons, Tr_c] at ht
  obtain ⟨f1, r1, d1, x1, N1, P1, e1, rfl, l1, rfl, a1, t1, f2, r2, d2, x2, N2, P2, rfl, rfl, l2, rfl, a2, t2, f3, r3, d3, x3, N3, P3, rfl, rfl, l3, rfl, a3, ⟨rfl, _, rfl⟩, t4⟩ := ht
  unfold Trs at t4
  obtain ⟨rfl, rfl, rfl⟩ := t4
  have hh : Has B C (inj c.h) d1 N1 := ⟨t1, fun b hb => h.dm b (by simp [hb]), fun b hb => h.s0 b (by simp [hb]), fun b hb => h.lo b (by simp [hb])⟩
  have hb : Has B C (inj c.b) d2 N2 := ⟨t2, fun b hb => h.dm b (by simp [hb]), fun b hb => h.s0 b (by simp [hb]), fun b hb => h.lo b (by simp [hb])⟩
  obtain ⟨A1, rfl, _⟩ := T_cells hh
  obtain ⟨A2, rfl, _⟩ := T_cells hb
  exact ⟨A1, A2, N1, N2, rfl, by simp, fun b hb => by simpa using a1 b hb, hh, hb⟩
theorem has_clause {B : Nat} {C : Cx} {c : Cl} {A1 A2 : Value} {K1 K2 : List Nat} (hd : ∀ b ∈ K1, b ∉ K2) (h1 : Has B C (inj c.h) [vi c.h.kind, .string c.h.name, vi c.h.num, A1] K1) (h2 : Has B C (inj c.b) [vi c.b.kind, .string c.b.name, vi c.b.num, A2] K2) :
    Has B C (injC c) [vi c.h.kind, .string c.h.name, vi c.h.num, A1, vi c.b.kind, .string c.b.name, vi c.b.num, A2, .string c.f] (K1 ++ K2) := by
  have both : ∀ {p : Nat → Prop}, (∀ b ∈ K1, p b) → (∀ b ∈ K2, p b) → ∀ b ∈ K1 ++ K2, p b := fun q1 q2 b hb => (List.mem_append.1 hb).elim (q1 b) (q2 b)
  refine ⟨?_, both h1.dm h2.dm, both h1.s0 h2.s0, both h1.lo h2.lo⟩
  unfold injC Tr
  simp only [Trs_cons, Tr_c]
  refine ⟨_, _, [vi c.h.kind, .string c.h.name, vi c.h.num, A1], [vi c.b.kind, .string c.b.name, vi c.b.num, A2, .string c.f], K1, K2, rfl, rfl, rfl, rfl, hd, h1.tr, _, _, [vi c.b.kind, .string c.b.name, vi c.b.num, A2], [.string c.f], K2, [], rfl, rfl, rfl, by simp, by simp, h2.tr, _, _, [.string c.f], [], [], [], rfl, rfl, rfl, rfl, by simp, ⟨rfl, rfl, rfl⟩, ?_⟩
  unfold Trs
  exact ⟨rfl, rfl, rfl⟩
end Go.Eng

/- Marks in terms: what they write, and the trees of kids. -/
import Derived.Test.YtjhdkjacfclipaaTm
set_option linter.unusedVariables false
set_option linter.unusedSimpArgs false
namespace Go.Eng

mutual
/-- How many numbers a mark of a term uses up. -/
def cntT : T → Int
  | .mk _ _ _ ks => 3 + cntL ks
def cntL : List T → Int
  | [] => 0
  | t :: r => cntT t + cntL r
end
mutual
/-- A term that has been marked from a number on. -/
def mkT : Int → T → T
  | k, .mk _ _ _ ks => .mk k (mtext (k + 1)) (k + 2) (mkL (k + 3) ks)
def mkL : Int → List T → List T
  | _, [] => []
  | k, t :: r => mkT k t :: mkL (k + cntT t) r
end
@[simp] theorem mkL_length : ∀ (ks : List T) (k : Int), (mkL k ks).length = ks.length
  | [], k => by simp [mkL]
  | t :: r, k => by simp [mkL, mkL_length r]

/-- The cells of a row of terms, the kids' slices given. -/
def rowsL : List T → List Value → List Value
  | t :: ts, A :: As => vi t.kind :: .string t.name :: vi t.num :: A :: rowsL ts As
  | _, _ => []
def kidsD (ts : List T) : List D := ts.map fun t => .sl LT (injs t.kids)
theorem kids_step {w : World} {u : T} {ys : List T} : ∀ (xs : List T) (As : List Value) (K : List Nat), Trs w (List.replicate (xs ++ u :: ys).length .one) (kidsD (xs ++ u :: ys)) As K →
    ∃ A Kj, As[xs.length]? = some A ∧ Tr w (.sl LT (injs u.kids)) [A] Kj ∧ (∀ b ∈ Kj, b ∈ K) ∧ ∀ (w' : World) (u' : T), (∀ b ∈ K, b ∉ Kj → w'.heap[b]? = w.heap[b]?) → Tr w' (.sl LT (injs u'.kids)) [A] Kj → Trs w' (List.replicate (xs ++ u' :: ys).length .one) (kidsD (xs ++ u' :: ys)) As K
  | [], As, K, h => by
    simp only [List.nil_append, kidsD, List.map_cons, List.length_cons, List.replicate_succ] at h
    unfold Trs at h
    obtain ⟨f, fr, c1, c2, M1, M2, e, rfl, h3, rfl, h5, h6, h7⟩ := h
    injection e with e1 e2
    subst e1; subst e2
    match c1, h3 with
    | [A], _ =>
      refine ⟨A, M1, rfl, h6, fun b hb => by simp [hb], fun w' u' hw h' => ?_⟩
      simp only [List.nil_append, kidsD, List.map_cons, List.length_cons, List.replicate_succ]
      unfold Trs
      exact ⟨_, _, [A], c2, M1, M2, rfl, rfl, rfl, rfl, h5, h', Trs_keep _ _ _ _ (fun b hb => hw b (by simp [hb]) fun h8 => h5 b h8 hb) h7⟩
  | x :: xs, As, K, h => by
    simp only [List.cons_append, kidsD, List.map_cons, List.length_cons, List.replicate_succ] at h
    unfold Trs at h
    obtain ⟨f, fr, c1, c2, M1, M2, e, rfl, h3, rfl, h5, h6, h7⟩ := h
    injection e with e1 e2
    subst e1; subst e2
    match c1, h3 with
    | [B], _ =>
      obtain ⟨A, Kj, k1, k2, k3, k4⟩ := kids_step xs c2 M2 h7
      refine ⟨A, Kj, by simpa using k1, k2, fun b hb => by simp [k3 b hb], fun w' u' hw h' => ?_⟩
      simp only [List.cons_append, kidsD, List.map_cons, List.length_cons, List.replicate_succ]
      unfold Trs
      exact ⟨_, _, [B], c2, M1, M2, rfl, rfl, rfl, rfl, h5, Tr_keep _ _ _ (fun b hb => hw b (by simp [hb]) fun h8 => h5 b hb (k3 b h8)) h6, k4 w' u' (fun b hb hn => hw b (by simp [hb]) hn) h'⟩

/-- The trees of the kids of a row of terms. -/
structure HasK (C : Cx) (ts : List T) (As : List Value) (K : List Nat) : Prop where
  tr : Trs C.w0 (List.replicate ts.length .one) (kidsD ts) As K
  dm : ∀ b ∈ K, ¬ C.Dm b
  s0 : ∀ b ∈ K, ¬ C.S0 b
theorem HasK.marked {C C' : Cx} {ts : List T} {As : List Value} {K K' : List Nat} (k : HasK C ts As K) (h : Mk C K' C') (hd : ∀ b ∈ K, b ∉ K') : HasK C' ts As K := by
  have hlt := Trs_lt _ _ _ _ k.tr
  refine ⟨Trs_keep _ _ _ _ (fun b hb => h.pres.block b (hlt b hb) fun h1 => h1.elim (k.dm b hb) (hd b hb)) k.tr, fun b hb h1 => ?_, fun b hb h1 => ?_⟩
  · rcases h.dm b h1 with h2 | h2
    · exact k.dm b hb h2
    · have := hlt b hb; omega
  · rcases h.fz b h1 with h2 | h2 | h2
    · exact k.s0 b hb h2
    · have := hlt b hb; omega
    · exact k.dm b hb h2
theorem HasK.step {C : Cx} {xs : List T} {u : T} {ys : List T} {As : List Value} {K : List Nat} (k : HasK C (xs ++ u :: ys) As K) :
    ∃ A Kj, As[xs.length]? = some A ∧ Has 0 C (.sl LT (injs u.kids)) [A] Kj ∧ (∀ b ∈ Kj, b ∈ K) ∧ ∀ (C' : Cx) (u' : T), Mk C Kj C' → Has 0 C' (.sl LT (injs u'.kids)) [A] Kj → HasK C' (xs ++ u' :: ys) As K := by
  obtain ⟨A, Kj, k1, k2, k3, k4⟩ := kids_step xs As K k.tr
  have hlt := Trs_lt _ _ _ _ k.tr
  refine ⟨A, Kj, k1, ⟨k2, fun b hb => k.dm b (k3 b hb), fun b hb => k.s0 b (k3 b hb), fun _ _ => Nat.zero_le _⟩, k3, fun C' u' hm h' => ⟨k4 C'.w0 u' (fun b hb hn => hm.pres.block b (hlt b hb) fun h1 => h1.elim (k.dm b hb) hn) h'.tr, fun b hb h1 => ?_, fun b hb h1 => ?_⟩⟩
  · rcases hm.dm b h1 with h2 | h2
    · exact k.dm b hb h2
    · have := hlt b hb; omega
  · rcases hm.fz b h1 with h2 | h2 | h2
    · exact k.s0 b hb h2
    · have := hlt b hb; omega
    · exact k.dm b hb h2

/-- A term whose kids have been marked. -/
def mkK (k : Int) (t : T) : T := .mk t.kind t.name t.num (mkL k t.kids)
end Go.Eng

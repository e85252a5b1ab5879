/- The order of terms. -/
import Derived.Test.YtjhdkjacfclipaaOk
set_option linter.unusedVariables false
namespace Go.Eng
def cI (a b : Int) : Int := if a < b then -1 else if b < a then 1 else 0
def cS (a b : ByteArray) : Int := if sless a b = true then -1 else if a = b then 0 else 1
def kR (k : Int) : Int := if k = 1 then 0 else if k = 3 then 1 else if k = 2 then 2 else 3
mutual
def cmpT : T → T → Int
  | .mk k s m ks, .mk k2 s2 m2 ks2 =>
    if cI (kR k) (kR k2) ≠ 0 then cI (kR k) (kR k2) else if k = 1 ∨ k = 3 then cI m m2 else if k = 2 then cS s s2
    else if cI ks.length ks2.length ≠ 0 then cI ks.length ks2.length else if cS s s2 ≠ 0 then cS s s2 else cmpL ks ks2
def cmpL : List T → List T → Int
  | [], [] => 0
  | [], _ :: _ => -1
  | _ :: _, [] => 1
  | x :: r, y :: r2 => if cmpT x y ≠ 0 then cmpT x y else cmpL r r2
end
theorem cmpL_nil_r : ∀ ks : List T, cmpL ks [] = if ks = [] then 0 else 1
  | [] => by rw [cmpL]; rfl
  | x :: r => by rw [cmpL]; rfl
theorem cmpL_nil_l : ∀ ks : List T, cmpL [] ks = if ks = [] then 0 else -1
  | [] => by rw [cmpL]; rfl
  | x :: r => by rw [cmpL]; rfl
def rk (k : Int) : Int := if k = 1 then 1 else if k = 2 then 3 else if k = 3 then 2 else 4
theorem lrightL_memS {ks : List T} {d : Int} (h : lrightL ks d = true) : ∀ u ∈ ks, lright u d = true := by
  induction ks with
  | nil => intro u hu; cases hu
  | cons x r ih =>
    simp only [lrightL, Bool.and_eq_true] at h
    intro u hu
    rcases List.mem_cons.1 hu with rfl | hu
    · exact h.1
    · exact ih h.2 u hu
theorem lright_wf {k m d : Int} {s : ByteArray} {ks : List T} (h : lright (.mk k s m ks) d = true) :
    ((k = 1 ∧ s = ⟨#[]⟩ ∧ ks = []) ∨ (k = 2 ∧ m = 0 ∧ ks = []) ∨ (k = 3 ∧ s = ⟨#[]⟩ ∧ ks = []) ∨ (k = 4 ∧ m = 0 ∧ ks ≠ [])) ∧ ∀ u ∈ ks, lright u (d + 1) = true := by
  simp only [lright, Bool.and_eq_true] at h
  obtain ⟨⟨_, h1⟩, h2⟩ := h
  refine ⟨?_, lrightL_memS h2⟩
  unfold oneB at h1
  split at h1
  · rename_i hk
    simp only [Bool.and_eq_true, decide_eq_true_eq] at h1
    exact .inl ⟨hk, h1.1.2, List.eq_nil_of_length_eq_zero (by omega)⟩
  · split at h1
    · rename_i hk
      simp only [Bool.and_eq_true, decide_eq_true_eq] at h1
      exact .inr (.inl ⟨hk, h1.1.2, List.eq_nil_of_length_eq_zero (by omega)⟩)
    · split at h1
      · rename_i hk
        simp only [Bool.and_eq_true, decide_eq_true_eq] at h1
        exact .inr (.inr (.inl ⟨hk, h1.1.2, List.eq_nil_of_length_eq_zero (by omega)⟩))
      · split at h1
        · rename_i hk
          simp only [Bool.and_eq_true, decide_eq_true_eq, inB] at h1
          exact .inr (.inr (.inr ⟨hk, h1.1.2, fun h => by rw [h] at h1; simp at h1⟩))
        · cases h1
theorem cI_self (a : Int) : cI a a = 0 := by unfold cI; simp
theorem cI_zero {a b : Int} : cI a b = 0 ↔ a = b := by
  unfold cI
  constructor
  · intro h; split at h
    · omega
    · split at h <;> omega
  · rintro rfl; simp
theorem bytesLess_irr : ∀ l : List UInt8, Op.bytesLess l l = false := by
  intro l
  induction l with
  | nil => rfl
  | cons x r ih => simp [Op.bytesLess, ih]
theorem sless_irr (a : ByteArray) : sless a a = false := bytesLess_irr _
theorem cS_self (a : ByteArray) : cS a a = 0 := by unfold cS; rw [sless_irr]; simp
/-- What the spec compares, in its order. -/
def c2 (m m2 : Int) (n n2 : Int) : Int := if cI n n2 = 0 then cI m m2 else cI n n2
def c3 (s s2 : ByteArray) (m m2 : Int) (n n2 : Int) : Int := if c2 m m2 n n2 = 0 then cS s s2 else c2 m m2 n n2
theorem rk_kR {k k2 m m2 d d2 : Int} {s s2 : ByteArray} {ks ks2 : List T} (h : lright (.mk k s m ks) d = true) (h2 : lright (.mk k2 s2 m2 ks2) d2 = true) : cI (rk k) (rk k2) = cI (kR k) (kR k2) ∧ (cI (rk k) (rk k2) = 0 → k = k2) := by
  rcases (lright_wf h).1 with ⟨rfl, _⟩ | ⟨rfl, _⟩ | ⟨rfl, _⟩ | ⟨rfl, _⟩ <;> rcases (lright_wf h2).1 with ⟨rfl, _⟩ | ⟨rfl, _⟩ | ⟨rfl, _⟩ | ⟨rfl, _⟩ <;> decide
theorem cmp_ne {k k2 m m2 d d2 : Int} {s s2 : ByteArray} {ks ks2 : List T} (h : lright (.mk k s m ks) d = true) (h2 : lright (.mk k2 s2 m2 ks2) d2 = true) (hc : cI (rk k) (rk k2) ≠ 0) : cmpT (.mk k s m ks) (.mk k2 s2 m2 ks2) = cI (rk k) (rk k2) := by
  obtain ⟨h3, _⟩ := rk_kR h h2
  rw [cmpT, if_pos (by rw [← h3]; exact hc), h3]
theorem cmp_eq {k k2 m m2 d d2 : Int} {s s2 : ByteArray} {ks ks2 : List T} (h : lright (.mk k s m ks) d = true) (h2 : lright (.mk k2 s2 m2 ks2) d2 = true) (hc : cI (rk k) (rk k2) = 0) :
    cmpT (.mk k s m ks) (.mk k2 s2 m2 ks2) = if c3 s s2 m m2 ks.length ks2.length ≠ 0 then c3 s s2 m m2 ks.length ks2.length else cmpL ks ks2 := by
  obtain ⟨h3, h4⟩ := rk_kR h h2
  have hk := h4 hc
  subst hk
  rw [cmpT, if_neg (by rw [← h3]; simpa using hc)]
  rcases (lright_wf h).1 with ⟨rfl, rfl, rfl⟩ | ⟨rfl, rfl, rfl⟩ | ⟨rfl, rfl, rfl⟩ | ⟨rfl, rfl, hk⟩ <;> rcases (lright_wf h2).1 with ⟨e, e2, e3⟩ | ⟨e, e2, e3⟩ | ⟨e, e2, e3⟩ | ⟨e, e2, e3⟩ <;> (try omega) <;> subst e2
  · subst e3
    have : c3 ⟨#[]⟩ ⟨#[]⟩ m m2 (([] : List T).length : Int) (([] : List T).length : Int) = cI m m2 := by
      unfold c3 c2
      rw [cI_self, cS_self, if_pos rfl]
      split <;> simp_all
    rw [this, if_pos (.inl rfl)]
    by_cases h9 : cI m m2 = 0
    · rw [if_neg (by simpa using h9), h9, cmpL]
    · rw [if_pos h9]
  · subst e3
    have : c3 s s2 0 0 (([] : List T).length : Int) (([] : List T).length : Int) = cS s s2 := by
      unfold c3 c2
      rw [cI_self, cI_self, if_pos rfl, if_pos rfl]
    rw [this, if_neg (by decide), if_pos rfl]
    by_cases h9 : cS s s2 = 0
    · rw [if_neg (by simpa using h9), h9, cmpL]
    · rw [if_pos h9]
  · subst e3
    have : c3 ⟨#[]⟩ ⟨#[]⟩ m m2 (([] : List T).length : Int) (([] : List T).length : Int) = cI m m2 := by
      unfold c3 c2
      rw [cI_self, cS_self, if_pos rfl]
      split <;> simp_all
    rw [this, if_pos (.inr rfl)]
    by_cases h9 : cI m m2 = 0
    · rw [if_neg (by simpa using h9), h9, cmpL]
    · rw [if_pos h9]
  · rw [if_neg (by decide), if_neg (by decide)]
    unfold c3 c2
    rw [cI_self]
    by_cases h9 : cI (ks.length : Int) (ks2.length : Int) = 0
    · simp only [h9, if_true, ne_eq, not_true_eq_false, if_false]
    · simp [h9]
theorem c3_len {s s2 : ByteArray} {m m2 n n2 : Int} (h : c3 s s2 m m2 n n2 = 0) : n = n2 := by
  unfold c3 c2 at h
  by_cases h9 : cI n n2 = 0
  · exact cI_zero.1 h9
  · simp [h9] at h
theorem okT_right {t : T} (h : okT t = true) : lright t 1 = true := by
  unfold okT at h
  rw [sized_eq] at h
  by_cases h3 : lright t 1 = true ∧ sz t ≤ 400
  · exact h3.1
  · rw [if_neg h3] at h; simp at h
def insT (t : T) : List T → List T
  | [] => [t]
  | x :: r => if cmpT t x < 0 then t :: x :: r else x :: insT t r
def sortF : List T → List T → List T
  | [], out => out
  | t :: r, out => sortF r (if okT t = true then insT t out else out)
theorem insT_length (t : T) : ∀ xs : List T, (insT t xs).length = xs.length + 1
  | [] => rfl
  | x :: r => by unfold insT; split <;> simp [insT_length t r]
theorem insT_mem (t : T) : ∀ {xs : List T} {u : T}, u ∈ insT t xs ↔ u = t ∨ u ∈ xs
  | [], u => by simp [insT]
  | x :: r, u => by
    unfold insT
    split
    · simp
    · simp only [List.mem_cons, insT_mem t (xs := r)]
      constructor
      · rintro (h | h | h)
        · exact .inr (.inl h)
        · exact .inl h
        · exact .inr (.inr h)
      · rintro (h | h | h)
        · exact .inr (.inl h)
        · exact .inl h
        · exact .inr (.inr h)
theorem injs_apo (a b : List T) : injs a ++ injs b = injs (a ++ b) := by simp [injs_map]
end Go.Eng

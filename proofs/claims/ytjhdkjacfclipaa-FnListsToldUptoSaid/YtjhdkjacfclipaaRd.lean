/- The join: what an argument reads as, in our words. -/
import Derived.Test.YtjhdkjacfclipaaJn
import Derived.Test.YtjhdkjacfclipaaMt
import Derived.ChangeArms
import Derived.Test.YtjhdkjacfclipaaRows
set_option linter.unusedVariables false
set_option linter.unusedSimpArgs false
namespace Go.Proofs.Ytjhdkjacfclipaa
open Go.Eng

abbrev below (w : World) : Nat → Prop := fun b => b < w.heap.size

section
variable {H : Type} {enc : TypeId × Value → H} {P : Program} {w : World} {sp : Nat → Bool} {held : Bool}

theorem mapM_get {A B : Type} {F : A → Option B} : ∀ {l : List A} {r : List B}, l.mapM F = some r → ∀ (i : Nat) (x : A), l[i]? = some x → ∃ y, r[i]? = some y ∧ F x = some y
  | [], r, h, i, x, hx => by simp at hx
  | a :: l, r, h, i, x, hx => by
    simp only [List.mapM_cons, Option.bind_eq_bind, Option.pure_def, Option.bind_eq_some_iff] at h
    obtain ⟨y, hy, r', hr, e⟩ := h
    injection e with e
    subst e
    cases i with
    | zero => simp at hx; subst hx; exact ⟨y, rfl, hy⟩
    | succ i => simp at hx; simpa using mapM_get hr i x hx
theorem mapM_len {A B : Type} {F : A → Option B} : ∀ {l : List A} {r : List B}, l.mapM F = some r → r.length = l.length
  | [], r, h => by simp at h; subst h; rfl
  | a :: l, r, h => by
    simp only [List.mapM_cons, Option.bind_eq_bind, Option.pure_def, Option.bind_eq_some_iff] at h
    obtain ⟨y, hy, r', hr, e⟩ := h
    injection e with e
    subst e
    simp [mapM_len hr]

theorem cells_of {base : Nat} {a : Addr} {m : Nat} {cs : List Value} (h : w.cells? base a m = some cs) : cs.length = m ∧ ∀ (j : Nat) (x : Value), cs[j]? = some x → w.cell? (a.add j) = some x := by
  unfold World.cells? at h
  split at h
  · have hl := mapM_len h
    refine ⟨by simpa using hl, fun j x hx => ?_⟩
    have hj := lt_of_get hx
    rw [hl] at hj
    have hj : j < m := by simpa using hj
    obtain ⟨y, h1, h2⟩ := mapM_get h j j (List.getElem?_range hj)
    rw [hx] at h1
    injection h1 with h1
    subst h1
    exact h2
  · cases h
/-- A list of things that there are, place by place. -/
theorem choose_list {A : Type} {p : Nat → A → Prop} : ∀ n : Nat, (∀ i, i < n → ∃ x, p i x) → ∃ l : List A, l.length = n ∧ ∀ i x, l[i]? = some x → p i x
  | 0, _ => ⟨[], rfl, fun i x h => by simp at h⟩
  | n + 1, h => by
    obtain ⟨l, hl, hp⟩ := choose_list n fun i hi => h i (by omega)
    obtain ⟨x, hx⟩ := h n (by omega)
    refine ⟨l ++ [x], by simp [hl], fun i y hy => ?_⟩
    by_cases hi : i < n
    · rw [List.getElem?_append_left (by omega)] at hy
      exact hp i y hy
    · have hi2 := lt_of_get hy
      simp [hl] at hi2
      have : i = n := by omega
      subst this
      rw [List.getElem?_append_right (by omega)] at hy
      simp [hl] at hy
      subst hy
      exact hx
/-- Cells of a slice's elements, laid end to end. -/
theorem DCs_rows {S : Nat → Prop} {l : Lay} : ∀ {ds : List D} {css : List (List Value)}, css.length = ds.length → (∀ (i : Nat) (d : D) (cs : List Value), ds[i]? = some d → css[i]? = some cs → DC S w d cs ∧ cs.length = l.len) → DCs S w (List.replicate ds.length l) ds css.flatten
  | [], [], _, _ => by simp [DCs]
  | [], _ :: _, h, _ => by simp at h
  | _ :: _, [], h, _ => by simp at h
  | d :: ds, cs :: css, h, hp => by
    obtain ⟨h1, h2⟩ := hp 0 d cs rfl rfl
    have := DCs_rows (S := S) (l := l) (ds := ds) (css := css) (by simpa using h) fun i d' cs' e1 e2 => hp (i + 1) d' cs' (by simpa using e1) (by simpa using e2)
    simp only [List.length_cons, List.replicate_succ, List.flatten_cons, DCs]
    exact ⟨_, _, _, _, rfl, rfl, h2, h1, this⟩
theorem flatten_get {l : Nat} (hl : 0 < l) : ∀ {css : List (List Value)}, (∀ c ∈ css, c.length = l) → ∀ (j : Nat) (x : Value), css.flatten[j]? = some x → ∃ c, css[j / l]? = some c ∧ c[j % l]? = some x
  | [], _, j, x, h => by simp at h
  | c :: css, hc, j, x, h => by
    have hcl := hc c (by simp)
    rw [List.flatten_cons] at h
    by_cases hj : j < l
    · rw [List.getElem?_append_left (by omega)] at h
      rw [Nat.div_eq_of_lt hj, Nat.mod_eq_of_lt hj]
      exact ⟨c, rfl, h⟩
    · rw [List.getElem?_append_right (by omega), hcl] at h
      obtain ⟨c', h1, h2⟩ := flatten_get hl (fun c hc' => hc c (by simp [hc'])) (j - l) x h
      have e1 : j / l = (j - l) / l + 1 := by rw [Nat.div_eq_sub_div hl (by omega)]
      have e2 : j % l = (j - l) % l := by rw [Nat.mod_eq_sub_mod (by omega)]
      rw [e1, e2]
      exact ⟨c', by simpa using h1, h2⟩
/-- The types that a term is made of. -/
structure TermTy (P : Program) (tT tS tI tB : TypeId) : Prop where
  uT : ∃ f0 f1 f2 f3 : Field, P.underlying tT = some (.struct #[f0, f1, f2, f3]) ∧ f0.type = tI ∧ f0.offset = 0 ∧ f1.type = tB ∧ f1.offset = 1 ∧ f2.type = tI ∧ f2.offset = 2 ∧ f3.type = tS ∧ f3.offset = 3
  uS : P.underlying tS = some (.slice tT)
  uI : P.underlying tI = some (.int .i64)
  uB : P.underlying tB = some .string
  cT : P.cellsOf tT = 4
  cI : P.cellsOf tI = 1
  cB : P.cellsOf tB = 1
  cS : P.cellsOf tS = 1

theorem bulkAll_mem {d : DataW H} : ∀ {l : List (DataW H)} {i : Nat}, l[i]? = some d → Rows.uptoBulk d ≤ Rows.uptoBulkAll l
  | [], i, h => by simp at h
  | x :: l, 0, h => by simp at h; subst h; simp only [Rows.uptoBulkAll]; omega
  | x :: l, i + 1, h => by
    have := bulkAll_mem (l := l) (i := i) (by simpa using h)
    simp only [Rows.uptoBulkAll]
    omega
theorem add_zero_addr (a : Addr) : a.add 0 = a := by simp [Addr.add]
theorem add_add_addr (a : Addr) (h : a.spot = none) (i j : Nat) : (a.add i).add j = ⟨a.block, a.off + (i + j), none⟩ := by
  cases a
  simp only at h
  subst h
  unfold Addr.add
  split <;> split <;> simp_all <;> omega
theorem cell_spot {a : Addr} {x : Value} (h : w.cell? a = some x) : a.spot = none ∧ a.block < w.heap.size := by
  unfold World.cell? at h
  split at h
  · rename_i e
    refine ⟨?_, (Array.getElem?_eq_some_iff.1 e).1⟩
    cases hs : a.spot with
    | none => rfl
    | some v => simp [hs] at h
  · cases h

end
end Go.Proofs.Ytjhdkjacfclipaa

/- The plain law of SinglesIn: the numbers that stand once, told in two ways. -/
import Derived.Test.YtohpcnagkpikjaaMt
set_option linter.unusedVariables false
set_option linter.unusedSimpArgs false
namespace Go.Eng

mutual
theorem times_count (n : Int) : ∀ t : T, times n t = (vars t).count n
  | .mk k s m ks => by
    have := timesL_count n ks
    simp only [times, vars, List.count_append, this]
    by_cases hk : k = 1
    · by_cases hm : m = n
      · simp [hk, hm]
      · have : ¬ n = m := fun h => hm h.symm
        simp [hk, hm]
    · simp [hk]
theorem timesL_count (n : Int) : ∀ ks : List T, timesL n ks = (varsL ks).count n
  | [] => by simp [timesL, varsL]
  | t :: r => by simp only [timesL, varsL, List.count_append, times_count n t, timesL_count n r]
end
/-- A number put behind a list where it is not there yet. -/
def addV (out : List Int) (x : Int) : List Int := if x ∉ out then out ++ [x] else out
mutual
theorem uV_fold : ∀ (t : T) (out : List Int), uV out t = (vars t).foldl addV out
  | .mk k s m ks, out => by
    simp only [uV, vars, List.foldl_append, uL_fold ks]
    by_cases hk : k = 1
    · simp [hk, addV]
    · simp [hk]
theorem uL_fold : ∀ (ks : List T) (out : List Int), uL out ks = (varsL ks).foldl addV out
  | [], out => by simp [uL, varsL]
  | t :: r, out => by simp only [uL, varsL, List.foldl_append, uV_fold t, uL_fold r]
end
theorem fold_filter (p : Int → Bool) : ∀ (l out : List Int), (∀ x, p x = true → (out ++ l).count x ≤ 1) → (l.foldl addV out).filter p = out.filter p ++ l.filter p
  | [], out, _ => by simp
  | y :: r, out, h => by
    rw [List.foldl_cons]
    by_cases hy : y ∈ out
    · have hp : p y = false := by
        cases hp : p y with
        | false => rfl
        | true =>
          have h1 := h y hp
          have h2 := List.one_le_count_iff.2 hy
          simp only [List.count_append, List.count_cons_self] at h1
          omega
      have ha : addV out y = out := by simp [addV, hy]
      rw [ha, fold_filter p r out (fun x hx => by
        have := h x hx
        simp only [List.count_append, List.count_cons] at this ⊢
        omega), List.filter_cons, if_neg (by simp [hp])]
    · have ha : addV out y = out ++ [y] := by simp [addV, hy]
      rw [ha, fold_filter p r (out ++ [y]) (fun x hx => by simpa using h x hx)]
      simp only [List.filter_append, List.filter_cons, List.filter_nil, List.append_assoc]
      split <;> rfl
theorem sgl_filter (vs : List Int) : ∀ j, j ≤ vs.length → sgl vs j = (vs.take j).filter fun x => decide (vs.count x = 1)
  | 0, _ => by simp [sgl]
  | j + 1, h => by
    have hlt : j < vs.length := by omega
    have hu : vs[j]? = some vs[j] := List.getElem?_eq_getElem hlt
    rw [sgl_get hu, sgl_filter vs j (by omega), take_succ_get hu, List.filter_append]
    congr 1
    have hs : vs = vs.take j ++ vs[j] :: vs.drop (j + 1) := by rw [← List.drop_eq_getElem_cons hlt, List.take_append_drop]
    have hc : vs.count vs[j] = (vs.take j).count vs[j] + (1 + (vs.drop (j + 1)).count vs[j]) := by
      conv => lhs; arg 2; rw [hs]
      rw [List.count_append, List.count_cons_self]
      omega
    by_cases h1 : vs[j] ∉ vs.take j ∧ vs[j] ∉ vs.drop (j + 1)
    · have e1 := List.count_eq_zero.2 h1.1
      have e2 := List.count_eq_zero.2 h1.2
      rw [if_pos h1, List.filter_cons, if_pos (by simp; omega)]
      simp
    · rw [if_neg h1, List.filter_cons, if_neg]
      · simp
      · intro h2
        simp only [decide_eq_true_eq] at h2
        refine h1 ⟨fun h3 => ?_, fun h3 => ?_⟩
        · have := List.one_le_count_iff.2 h3; omega
        · have := List.one_le_count_iff.2 h3; omega
theorem singles_law (t : T) : sgl (vars t) (vars t).length = ones t (uV [] t) := by
  rw [sgl_filter _ _ (Nat.le_refl _), List.take_length, ones, uV_fold]
  have e : (fun x => decide (times x t = 1)) = fun x => decide ((vars t).count x = 1) := by funext x; rw [times_count]
  rw [e, fold_filter _ (vars t) [] (fun x hx => by
    have : (vars t).count x = 1 := by simpa using hx
    simp [this])]
  simp
end Go.Eng

/- Goals of a body; plain programs, flat programs. -/
import Derived.Test.YtjhdkjacfclipaaCs
set_option linter.unusedVariables false
namespace Go.Eng
mutual
theorem lright_le : ∀ (t : T) (d d' : Int), d' ≤ d → lright t d = true → lright t d' = true
  | .mk k s m ks, d, d', h, hr => by
    simp only [lright, Bool.and_eq_true, Bool.not_eq_true', decide_eq_false_iff_not] at hr ⊢
    exact ⟨⟨by omega, hr.1.2⟩, lrightL_le ks (d + 1) (d' + 1) (by omega) hr.2⟩
theorem lrightL_le : ∀ (ks : List T) (d d' : Int), d' ≤ d → lrightL ks d = true → lrightL ks d' = true
  | [], d, d', h, hr => by simp [lrightL]
  | t :: r, d, d', h, hr => by
    simp only [lrightL, Bool.and_eq_true] at hr ⊢
    exact ⟨lright_le t d d' h hr.1, lrightL_le r d d' h hr.2⟩
end
theorem okT_iff (t : T) : okT t = true ↔ lright t 1 = true ∧ sz t ≤ 400 := by
  unfold okT
  rw [sized_eq]
  by_cases h : lright t 1 = true ∧ sz t ≤ 400
  · rw [if_pos h]; simp only [decide_eq_true_eq]; exact ⟨fun _ => h, fun _ => by omega⟩
  · rw [if_neg h]; simp only [decide_eq_true_eq]; exact ⟨fun h => by omega, fun k => absurd k h⟩
theorem lrightL_mem {ks : List T} {d : Int} {u : T} (h : lrightL ks d = true) (hu : u ∈ ks) : lright u d = true := by
  induction ks with
  | nil => cases hu
  | cons t r ih =>
    simp only [lrightL, Bool.and_eq_true] at h
    rcases List.mem_cons.1 hu with rfl | hu
    · exact h.1
    · exact ih h.2 hu
theorem okT_kid {k m : Int} {s : ByteArray} {ks : List T} {u : T} (h : okT (.mk k s m ks) = true) (hu : u ∈ ks) : okT u = true := by
  obtain ⟨h1, h2⟩ := (okT_iff _).1 h
  simp only [lright, Bool.and_eq_true] at h1
  simp only [sz] at h2
  have := sz_mem hu
  exact (okT_iff u).2 ⟨lright_le u _ _ (by omega) (lrightL_mem h1.2 hu), by omega⟩

abbrev cTrue : ByteArray := ⟨#[116, 114, 117, 101, 47, 48]⟩
abbrev cEq : ByteArray := ⟨#[61, 47, 50]⟩
abbrev cPr : ByteArray := ⟨#[112, 114, 47, 50]⟩
/-- What a body adds to goals, its kids' walks given; false: it is another one. -/
def goalsA (t : T) (fs : List (List T → List T × Bool)) (out : List T) : List T × Bool :=
  if predS t = cTrue then (out, true)
  else if predS t = cComma then (match fs with | f :: g :: _ => (if (f out).2 = true then g (f out).1 else ((f out).1, false)) | _ => (out, false))
  else if predS t = cEq then (out ++ [t], true)
  else if predS t = ⟨#[]⟩ ∨ ctlB (predS t) = true then (out, false) else (out ++ [t], true)
mutual
def goalsP : T → List T → List T × Bool
  | .mk k s m ks => goalsA (.mk k s m ks) (goalsPs ks)
def goalsPs : List T → List (List T → List T × Bool)
  | [] => []
  | t :: r => goalsP t :: goalsPs r
end
theorem goalsP_mk (k : Int) (s : ByteArray) (m : Int) (ks : List T) (out : List T) : goalsP (.mk k s m ks) out = goalsA (.mk k s m ks) (goalsPs ks) out := by rw [goalsP]
section
variable {k m : Int} {s : ByteArray} {x y : T} {ks : List T} {out : List T}
theorem goalsP_true (h : predS (.mk k s m ks) = cTrue) : goalsP (.mk k s m ks) out = (out, true) := by
  rw [goalsP_mk]; unfold goalsA; rw [if_pos h]
theorem goalsP_two (h : predS (.mk k s m [x, y]) = cComma) : goalsP (.mk k s m [x, y]) out = if (goalsP x out).2 = true then goalsP y (goalsP x out).1 else ((goalsP x out).1, false) := by
  rw [goalsP_mk]; unfold goalsA; rw [if_neg (by rw [h]; decide), if_pos h]
  simp only [goalsPs]
theorem goalsP_eq (h : predS (.mk k s m ks) = cEq) : goalsP (.mk k s m ks) out = (out ++ [.mk k s m ks], true) := by
  rw [goalsP_mk]; unfold goalsA; rw [if_neg (by rw [h]; decide), if_neg (by rw [h]; decide), if_pos h]
theorem goalsP_end (h1 : ¬ predS (.mk k s m ks) = cTrue) (h2 : ¬ predS (.mk k s m ks) = cComma) (h3 : ¬ predS (.mk k s m ks) = cEq) : goalsP (.mk k s m ks) out = if predS (.mk k s m ks) = ⟨#[]⟩ ∨ ctlB (predS (.mk k s m ks)) = true then (out, false) else (out ++ [.mk k s m ks], true) := by
  rw [goalsP_mk]; unfold goalsA; rw [if_neg h1, if_neg h2, if_neg h3]
end
theorem comma_kids {k m : Int} {s : ByteArray} {ks : List T} (h : predS (.mk k s m ks) = cComma) : ∃ x y, ks = [x, y] := len2 (predS_kids [44] 2 (by omega) rfl h)
theorem goalsP_len (t : T) : ∀ out : List T, ((goalsP t out).1.length : Int) ≤ out.length + sz t := by
  induction t using T.ind with | h k s m ks ih => ?_
  intro out
  by_cases h1 : predS (.mk k s m ks) = cTrue
  · rw [goalsP_true h1]; show (out.length : Int) ≤ _; omega
  · by_cases h2 : predS (.mk k s m ks) = cComma
    · obtain ⟨x, y, rfl⟩ := comma_kids h2
      rw [goalsP_two h2]
      have hx := ih x (by simp) out
      have hy := ih y (by simp) (goalsP x out).1
      simp only [sz, szs]
      split
      · push_cast; omega
      · show ((goalsP x out).1.length : Int) ≤ _; push_cast; omega
    · have hp := sz_pos (.mk k s m ks)
      by_cases h3 : predS (.mk k s m ks) = cEq
      · rw [goalsP_eq h3]; simp only [List.length_append, List.length_singleton]; push_cast; omega
      · rw [goalsP_end h1 h2 h3]
        split
        · show (out.length : Int) ≤ _; omega
        · simp only [List.length_append, List.length_singleton]; push_cast; omega
theorem injs_app (a b : List T) : injs (a ++ b) = injs a ++ injs b := by simp [injs_map]
theorem szs_app (a b : List T) : szs (a ++ b) = szs a + szs b := by
  induction a with
  | nil => simp [szs]
  | cons t r ih => simp only [List.cons_append, szs, ih]; omega
theorem goalsP_szs (t : T) : ∀ out : List T, szs (goalsP t out).1 ≤ szs out + sz t := by
  induction t using T.ind with | h k s m ks ih => ?_
  intro out
  have hone : szs (out ++ [.mk k s m ks]) = szs out + sz (.mk k s m ks) := by rw [szs_app]; simp [szs]
  by_cases h1 : predS (.mk k s m ks) = cTrue
  · rw [goalsP_true h1]; show szs out ≤ _; omega
  · by_cases h2 : predS (.mk k s m ks) = cComma
    · obtain ⟨x, y, rfl⟩ := comma_kids h2
      rw [goalsP_two h2]
      have hx := ih x (by simp) out
      have hy := ih y (by simp) (goalsP x out).1
      simp only [sz, szs]
      split
      · omega
      · show szs (goalsP x out).1 ≤ _; omega
    · by_cases h3 : predS (.mk k s m ks) = cEq
      · rw [goalsP_eq h3]; show szs (out ++ [_]) ≤ _; omega
      · rw [goalsP_end h1 h2 h3]
        split
        · show szs out ≤ _; omega
        · show szs (out ++ [_]) ≤ _; omega
/-- What stands ahead does not matter. -/
theorem goalsP_shift (t : T) : ∀ out : List T, (goalsP t out).2 = (goalsP t []).2 ∧ ((goalsP t []).2 = true → (goalsP t out).1 = out ++ (goalsP t []).1) := by
  induction t using T.ind with | h k s m ks ih => ?_
  intro out
  by_cases h1 : predS (.mk k s m ks) = cTrue
  · rw [goalsP_true h1, goalsP_true h1]; simp
  · by_cases h2 : predS (.mk k s m ks) = cComma
    · obtain ⟨x, y, rfl⟩ := comma_kids h2
      rw [goalsP_two h2, goalsP_two h2]
      obtain ⟨a1, a2⟩ := ih x (by simp) out
      rw [a1]
      cases hx : (goalsP x []).2 with
      | false => simp
      | true =>
        simp only [if_true]
        rw [a2 hx]
        obtain ⟨b1, b2⟩ := ih y (by simp) (out ++ (goalsP x []).1)
        obtain ⟨c1, c2⟩ := ih y (by simp) (goalsP x []).1
        refine ⟨by rw [b1, c1], fun h => ?_⟩
        rw [c1] at h
        rw [b2 h, c2 h, List.append_assoc]
    · by_cases h3 : predS (.mk k s m ks) = cEq
      · rw [goalsP_eq h3, goalsP_eq h3]; simp
      · rw [goalsP_end h1 h2 h3, goalsP_end h1 h2 h3]
        split <;> simp
/-- The goals of a body, and whether it has just goals. -/
def goalsIn (t : T) : List T × Bool := if okT t = true ∧ (goalsP t []).2 = true then ((goalsP t []).1, true) else ([], false)
theorem goalsIn_len (t : T) : ((goalsIn t).1.length : Int) ≤ sz t := by
  unfold goalsIn
  split
  · have := goalsP_len t []
    simpa using this
  · simp
theorem goalsIn_szs (t : T) : szs (goalsIn t).1 ≤ sz t := by
  unfold goalsIn
  split
  · have := goalsP_szs t []
    simpa [szs] using this
  · simp [szs]
section
variable {k m : Int} {s : ByteArray} {x y : T} {ks : List T}
theorem goalsIn_bad {t : T} (h : okT t = false) : goalsIn t = ([], false) := by
  unfold goalsIn; rw [if_neg (by simp [h])]
theorem goalsIn_two (ho : okT (.mk k s m [x, y]) = true) (h : predS (.mk k s m [x, y]) = cComma) :
    goalsIn (.mk k s m [x, y]) = if (goalsIn x).2 = true ∧ (goalsIn y).2 = true then ((goalsIn x).1 ++ (goalsIn y).1, true) else ([], false) := by
  have hx := okT_kid ho (u := x) (by simp)
  have hy := okT_kid ho (u := y) (by simp)
  unfold goalsIn
  rw [goalsP_two h]
  obtain ⟨c1, c2⟩ := goalsP_shift y (goalsP x []).1
  simp only [ho, hx, hy, true_and]
  cases h1 : (goalsP x []).2 with
  | false => simp
  | true =>
    cases h2 : (goalsP y []).2 with
    | false => simp [c1, h2]
    | true => simp [c1, h2, c2 h2]
theorem goalsIn_true (ho : okT (.mk k s m ks) = true) (h : predS (.mk k s m ks) = cTrue) : goalsIn (.mk k s m ks) = ([], true) := by
  unfold goalsIn; rw [goalsP_true h, if_pos ⟨ho, rfl⟩]
theorem goalsIn_end (ho : okT (.mk k s m ks) = true) (h1 : ¬ predS (.mk k s m ks) = cComma) (h2 : ¬ predS (.mk k s m ks) = cTrue) :
    goalsIn (.mk k s m ks) = if predS (.mk k s m ks) = ⟨#[]⟩ ∨ (ctlB (predS (.mk k s m ks)) = true ∧ ¬ predS (.mk k s m ks) = cEq) then ([], false) else ([.mk k s m ks], true) := by
  unfold goalsIn
  by_cases h3 : predS (.mk k s m ks) = cEq
  · rw [goalsP_eq h3, if_pos ⟨ho, rfl⟩, if_neg (by simp [h3])]; rfl
  · rw [goalsP_end h2 h1 h3]
    by_cases h4 : predS (.mk k s m ks) = ⟨#[]⟩ ∨ ctlB (predS (.mk k s m ks)) = true
    · rw [if_pos h4, if_neg (by simp), if_pos (by simpa [h3] using h4)]
    · rw [if_neg h4, if_pos ⟨ho, rfl⟩, if_neg (by simpa [h3] using h4)]; rfl
end
/-- The numbers of variables in a list, told by membership. -/
theorem uV_mem : ∀ (t : T) (out : List Int) (n : Int), n ∈ uV out t ↔ n ∈ out ∨ n ∈ vars t := by
  intro t
  induction t using T.ind with | h k s m ks ih => ?_
  intro out n
  have hl : ∀ (l : List T), (∀ u ∈ l, ∀ (out : List Int) (n : Int), n ∈ uV out u ↔ n ∈ out ∨ n ∈ vars u) → ∀ out : List Int, n ∈ uL out l ↔ n ∈ out ∨ n ∈ varsL l := by
    intro l
    induction l with
    | nil => intro _ out; simp [uL, varsL]
    | cons u r ihl =>
      intro h out
      rw [uL, varsL, ihl (fun v hv => h v (by simp [hv])), h u (by simp)]
      simp [or_assoc]
  rw [uV, hl ks ih, vars]
  by_cases h1 : k = 1
  · by_cases h2 : m ∈ out
    · simp [h1, h2]
      constructor
      · rintro (h | h); exact .inl h; exact .inr (.inr h)
      · rintro (h | h | h); exact .inl h; subst h; exact .inl h2; exact .inr h
    · simp [h1, h2, or_assoc]
  · simp [h1]
theorem varsL_mem {ks : List T} {n : Int} : n ∈ varsL ks ↔ ∃ u ∈ ks, n ∈ vars u := by
  induction ks with
  | nil => simp [varsL]
  | cons t r ih => simp [varsL, ih]
theorem goalsP_vars (t : T) : ∀ out : List T, okT t = true → (goalsP t out).2 = true → ∀ n, n ∈ varsL (goalsP t out).1 ↔ n ∈ varsL out ∨ n ∈ vars t := by
  induction t using T.ind with | h k s m ks ih => ?_
  intro out ho hg n
  have hva : ∀ (a : List T) (b : List T), n ∈ varsL (a ++ b) ↔ n ∈ varsL a ∨ n ∈ varsL b := by
    intro a b
    simp only [varsL_mem, List.mem_append]
    constructor
    · rintro ⟨u, h | h, hu⟩
      · exact .inl ⟨u, h, hu⟩
      · exact .inr ⟨u, h, hu⟩
    · rintro (⟨u, h, hu⟩ | ⟨u, h, hu⟩)
      · exact ⟨u, .inl h, hu⟩
      · exact ⟨u, .inr h, hu⟩
  have hone : n ∈ varsL [.mk k s m ks] ↔ n ∈ vars (.mk k s m ks) := by simp [varsL]
  by_cases h1 : predS (.mk k s m ks) = cTrue
  · rw [goalsP_true h1]
    have hk0 : ks.length = 0 := predS_kids (t := .mk k s m ks) [116, 114, 117, 101] 0 (by omega) rfl h1
    have hkk : ¬ k = 1 := by
      intro hk
      subst hk
      unfold predS at h1
      simp [T.kind] at h1
    have : ks = [] := List.eq_nil_of_length_eq_zero hk0
    subst this
    simp [vars, varsL, hkk]
  · by_cases h2 : predS (.mk k s m ks) = cComma
    · have hkk : ¬ k = 1 := by
        intro hk
        subst hk
        unfold predS at h2
        simp [T.kind] at h2
      obtain ⟨x, y, rfl⟩ := comma_kids h2
      rw [goalsP_two h2] at hg ⊢
      have hx := ih x (by simp) out (okT_kid ho (by simp))
      have hy := ih y (by simp) (goalsP x out).1 (okT_kid ho (by simp))
      cases h3 : (goalsP x out).2 with
      | false => rw [h3] at hg; simp at hg
      | true =>
        rw [h3] at hg
        simp only [if_true] at hg ⊢
        rw [hy hg n, hx h3 n]
        simp [vars, varsL, hkk, or_assoc]
    · by_cases h3 : predS (.mk k s m ks) = cEq
      · rw [goalsP_eq h3]; rw [hva, hone]
      · rw [goalsP_end h1 h2 h3] at hg ⊢
        split at hg
        · simp at hg
        · rename_i h4
          rw [if_neg h4, hva, hone]
theorem goalsIn_vars {t : T} (h : (goalsIn t).2 = true) (n : Int) : n ∈ varsL (goalsIn t).1 ↔ n ∈ uV [] t := by
  unfold goalsIn at h ⊢
  by_cases h1 : okT t = true ∧ (goalsP t []).2 = true
  · rw [if_pos h1, goalsP_vars t [] h1.1 h1.2 n, uV_mem]
    simp [varsL]
  · rw [if_neg h1] at h; simp at h
def headB (t : T) : Bool := !decide (predS t = ⟨#[]⟩) && !ctlB (predS t)
def clB (c : Cl) : Bool := okT c.h && okT c.b && headB c.h
def dbB (d : Dbt) : Bool := d.cs.all clB && decide ((d.cs.length : Int) ≤ 120) && decide ((d.op.length : Int) ≤ 40)
def plainB (d : Dbt) : Bool := d.cs.all (fun c => (goalsIn c.b).2 && !decide (predS c.h = cPr)) && dbB d
def flatC1 (c : Cl) : Bool := (goalsIn c.b).2 && flatT c.h && decide (((goalsIn c.b).1.length : Int) ≤ 2) && (goalsIn c.b).1.all (fun g => flatT g && !decide (predS g = cEq)) && (uV [] c.h).all fun n => decide (n ∈ uV [] c.b)
def flatDB (d : Dbt) : Bool := d.cs.all flatC1 && plainB d
theorem plainB_eq (d : Dbt) : plainB d = (d.cs.all (fun c => (goalsIn c.b).2) && !(d.cs.any fun c => decide (predS c.h = cPr)) && dbB d) := by
  unfold plainB
  congr 1
  generalize d.cs = cs
  induction cs with
  | nil => rfl
  | cons c r ih =>
    simp only [List.all_cons, List.any_cons, ih]
    cases (goalsIn c.b).2 <;> cases decide (predS c.h = cPr) <;> simp
theorem plainB_goal {d : Dbt} (h : plainB d = true) {c : Cl} (hc : c ∈ d.cs) : (goalsIn c.b).2 = true := by
  rw [plainB_eq] at h
  simp only [Bool.and_eq_true, List.all_eq_true] at h
  exact h.1.1 c hc
/-- The goals of a body are parts of it. -/
theorem goalsP_bulk (t : T) : ∀ (out : List T) (B : Int), bulk t ≤ B → (∀ u ∈ out, bulk u ≤ B) → ∀ u ∈ (goalsP t out).1, bulk u ≤ B := by
  induction t using T.ind with | h k s m ks ih => ?_
  intro out B hb ho
  have hone : ∀ u ∈ out ++ [.mk k s m ks], bulk u ≤ B := by
    intro u hu
    rcases List.mem_append.1 hu with hu | hu
    · exact ho u hu
    · rw [List.mem_singleton] at hu; subst hu; exact hb
  by_cases h1 : predS (.mk k s m ks) = cTrue
  · rw [goalsP_true h1]; exact ho
  · by_cases h2 : predS (.mk k s m ks) = cComma
    · obtain ⟨x, y, rfl⟩ := comma_kids h2
      rw [goalsP_two h2]
      have hx := ih x (by simp) out B (bulk_mem hb x (by simp)) ho
      split
      · exact ih y (by simp) (goalsP x out).1 B (bulk_mem hb y (by simp)) hx
      · exact hx
    · by_cases h3 : predS (.mk k s m ks) = cEq
      · rw [goalsP_eq h3]; exact hone
      · rw [goalsP_end h1 h2 h3]
        split
        · exact ho
        · exact hone
theorem goalsIn_bulk {t u : T} (h : u ∈ (goalsIn t).1) : bulk u ≤ bulk t := by
  unfold goalsIn at h
  split at h
  · exact goalsP_bulk t [] (bulk t) (Int.le_refl _) (by simp) u h
  · cases h
/-- The variables of goals, one goal behind the other. -/
def metF : List T → List Int
  | [] => []
  | g :: r => uV [] g ++ metF r
theorem metF_mem {gs : List T} {n : Int} : n ∈ metF gs ↔ n ∈ varsL gs := by
  induction gs with
  | nil => simp [metF, varsL]
  | cons g r ih => simp [metF, varsL, ih, uV_mem]
def goalB (g : T) : Bool := flatT g && !decide (predS g = cEq)
theorem flatC1_eq {c : Cl} (h : (goalsIn c.b).2 = true) : flatC1 c = (flatT c.h && decide (((goalsIn c.b).1.length : Int) ≤ 2) && (goalsIn c.b).1.all goalB && (uV [] c.h).all fun n => decide (n ∈ metF (goalsIn c.b).1)) := by
  unfold flatC1
  rw [h, Bool.true_and]
  have : (fun n => decide (n ∈ uV [] c.b)) = fun n => decide (n ∈ metF (goalsIn c.b).1) := by
    funext n
    simp only [metF_mem, goalsIn_vars h]
  rw [this]
  rfl
end Go.Eng

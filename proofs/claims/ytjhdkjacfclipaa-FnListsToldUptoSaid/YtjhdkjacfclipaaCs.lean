/- What a goal calls: control predicates and the walk over bodies. -/
import Derived.Test.YtjhdkjacfclipaaWn
import Derived.Test.YtjhdkjacfclipaaDb
set_option linter.unusedVariables false
namespace Go.Eng
def ctlL : List ByteArray := [⟨#[116, 114, 117, 101, 47, 48]⟩,
  ⟨#[102, 97, 105, 108, 47, 48]⟩,
  ⟨#[33, 47, 48]⟩,
  ⟨#[44, 47, 50]⟩,
  ⟨#[59, 47, 50]⟩,
  ⟨#[45, 62, 47, 50]⟩,
  ⟨#[92, 43, 47, 49]⟩,
  ⟨#[99, 97, 108, 108, 47, 49]⟩,
  ⟨#[99, 97, 108, 108, 47, 50]⟩,
  ⟨#[99, 97, 108, 108, 47, 51]⟩,
  ⟨#[99, 97, 116, 99, 104, 47, 51]⟩,
  ⟨#[116, 104, 114, 111, 119, 47, 49]⟩,
  ⟨#[61, 47, 50]⟩,
  ⟨#[92, 61, 47, 50]⟩,
  ⟨#[61, 61, 47, 50]⟩,
  ⟨#[105, 115, 47, 50]⟩,
  ⟨#[60, 47, 50]⟩,
  ⟨#[61, 58, 61, 47, 50]⟩,
  ⟨#[118, 97, 114, 47, 49]⟩,
  ⟨#[97, 116, 111, 109, 47, 49]⟩,
  ⟨#[119, 114, 105, 116, 101, 47, 49]⟩,
  ⟨#[97, 115, 115, 101, 114, 116, 122, 47, 49]⟩,
  ⟨#[114, 101, 116, 114, 97, 99, 116, 47, 49]⟩,
  ⟨#[58, 45, 47, 50]⟩,
  ⟨#[58, 45, 47, 49]⟩,
  ⟨#[45, 45, 62, 47, 50]⟩]
def ctlB (s : ByteArray) : Bool := hasS ctlL s
abbrev cComma : ByteArray := ⟨#[44, 47, 50]⟩
abbrev cSemi : ByteArray := ⟨#[59, 47, 50]⟩
abbrev cArrow : ByteArray := ⟨#[45, 62, 47, 50]⟩
abbrev cNot : ByteArray := ⟨#[92, 43, 47, 49]⟩
abbrev cCall : ByteArray := ⟨#[99, 97, 108, 108, 47, 49]⟩
abbrev cCatch : ByteArray := ⟨#[99, 97, 116, 99, 104, 47, 51]⟩

theorem len1 {α : Type} {l : List α} (h : l.length = 1) : ∃ x, l = [x] := by
  match l, h with
  | [x], _ => exact ⟨x, rfl⟩
section
variable {A : Type}
/-- What one goal does, its kids' walks given. -/
def actF (step : A → ByteArray → Bool → A) (p : ByteArray) (fs : List (Bool → A → A)) (neg : Bool) (a : A) : A :=
  if p = cComma ∨ p = cSemi ∨ p = cArrow then (match fs with | f :: g :: _ => g neg (f neg a) | _ => a)
  else if p = cNot then (match fs with | f :: _ => f true a | _ => a)
  else if p = cCall then (match fs with | f :: _ => f neg a | _ => a)
  else if p = cCatch then (match fs with | f :: _ :: g :: _ => g neg (f neg a) | _ => a)
  else if p = ⟨#[]⟩ ∨ ctlB p = true then a else step a p neg
mutual
def eachF (step : A → ByteArray → Bool → A) : T → Bool → A → A
  | .mk k s m ks => actF step (predS (.mk k s m ks)) (eachFs step ks)
def eachFs (step : A → ByteArray → Bool → A) : List T → List (Bool → A → A)
  | [] => []
  | t :: r => eachF step t :: eachFs step r
end
end
/-- The walk that puts each predicate once; the sign is not looked at. -/
def stepO (a : List ByteArray) (s : ByteArray) (_ : Bool) : List ByteArray := onceL a s
def callsF (t : T) (a : List ByteArray) : List ByteArray := eachF stepO t false a
section
variable {A : Type} {step : A → ByteArray → Bool → A} {k m : Int} {s : ByteArray} {x y z : T} {ks : List T} {neg : Bool} {a : A}
end
def callsIn (t : T) : List ByteArray := if okT t = true then callsF t [] else []
theorem bulk_mem {k m : Int} {s : ByteArray} {ks : List T} {B : Int} (h : bulk (.mk k s m ks) ≤ B) : ∀ u ∈ ks, bulk u ≤ B := (bulk_mk h).2.2
end Go.Eng

/- What a program's predicates call. -/
set_option linter.unusedVariables false
namespace Go.Eng
def clsOf : List Cl → ByteArray → List Cl
  | [], _ => []
  | c :: r, p => if predS c.h = p then c :: clsOf r p else clsOf r p
theorem clsOf_mem {cs : List Cl} {p : ByteArray} {c : Cl} (h : c ∈ clsOf cs p) : c ∈ cs := by
  induction cs with
  | nil => simp [clsOf] at h
  | cons d r ih =>
    simp only [clsOf] at h
    split at h
    · rcases List.mem_cons.1 h with rfl | h
      · simp
      · exact List.mem_cons_of_mem _ (ih h)
    · exact List.mem_cons_of_mem _ (ih h)
def addAll (out : List ByteArray) : List ByteArray → List ByteArray
  | [] => out
  | x :: r => addAll (onceL out x) r
def callsL : List Cl → List ByteArray → List ByteArray
  | [], out => out
  | c :: r, out => callsL r (addAll out (callsIn c.b))
/-- How many places the calls of clauses may take. -/
def wC : List Cl → Nat
  | [] => 0
  | c :: r => (callsIn c.b).length + wC r
def callsOf (d : Dbt) (p : ByteArray) : List ByteArray := callsL (clsOf d.cs p) []
end Go.Eng

/- What a predicate reaches. -/
set_option linter.unusedVariables false
set_option linter.unusedSimpArgs false
namespace Go.Eng
theorem hasS_iff {xs : List ByteArray} {s : ByteArray} : hasS xs s = true ↔ s ∈ xs := by
  induction xs with
  | nil => simp [hasS]
  | cons x r ih => simp only [hasS, Bool.or_eq_true, decide_eq_true_eq, ih, List.mem_cons]; exact or_congr eq_comm Iff.rfl
theorem onceL_mem {xs : List ByteArray} {s y : ByteArray} : y ∈ onceL xs s ↔ y ∈ xs ∨ y = s := by
  unfold onceL
  by_cases h : hasS xs s = true
  · rw [if_pos h]
    have := hasS_iff.1 h
    exact ⟨.inl, fun h2 => h2.elim id fun e => e ▸ this⟩
  · rw [if_neg h]; simp
theorem onceL_nodup {xs : List ByteArray} {s : ByteArray} (h : xs.Nodup) : (onceL xs s).Nodup := by
  unfold onceL
  split
  · exact h
  · rename_i h2
    have hn : s ∉ xs := fun hm => h2 (hasS_iff.2 hm)
    rw [List.nodup_append]
    exact ⟨h, by simp, fun a ha b hb e => by simp at hb; subst hb; exact hn (e ▸ ha)⟩
theorem addAll_mem {ys : List ByteArray} : ∀ {xs : List ByteArray} {y : ByteArray}, y ∈ addAll xs ys ↔ y ∈ xs ∨ y ∈ ys := by
  induction ys with
  | nil => intro xs y; simp [addAll]
  | cons z r ih => intro xs y; rw [addAll, ih, onceL_mem, List.mem_cons, or_assoc]
theorem addAll_nodup {ys : List ByteArray} : ∀ {xs : List ByteArray}, xs.Nodup → (addAll xs ys).Nodup := by
  induction ys with
  | nil => intro xs h; exact h
  | cons z r ih => intro xs h; exact ih (onceL_nodup h)
/-- All that clauses call. -/
def uC : List Cl → List ByteArray
  | [] => []
  | c :: r => callsIn c.b ++ uC r
theorem uC_len (cs : List Cl) : (uC cs).length = wC cs := by
  induction cs with
  | nil => rfl
  | cons c r ih => simp [uC, wC, ih]
theorem uC_mem {cs : List Cl} {c : Cl} {y : ByteArray} (h : c ∈ cs) (hy : y ∈ callsIn c.b) : y ∈ uC cs := by
  induction cs with
  | nil => cases h
  | cons d r ih =>
    rcases List.mem_cons.1 h with rfl | h
    · simp [uC, hy]
    · simp [uC, ih h]
theorem callsL_mem {cs : List Cl} : ∀ {out : List ByteArray} {y : ByteArray}, y ∈ callsL cs out → y ∈ out ∨ ∃ c ∈ cs, y ∈ callsIn c.b := by
  induction cs with
  | nil => intro out y h; exact .inl h
  | cons c r ih =>
    intro out y h
    rcases ih h with h | ⟨d, hd, h⟩
    · rcases addAll_mem.1 h with h | h
      · exact .inl h
      · exact .inr ⟨c, by simp, h⟩
    · exact .inr ⟨d, by simp [hd], h⟩
theorem callsL_nodup {cs : List Cl} : ∀ {out : List ByteArray}, out.Nodup → (callsL cs out).Nodup := by
  induction cs with
  | nil => intro out h; exact h
  | cons c r ih => intro out h; exact ih (addAll_nodup h)
theorem callsOf_sub {d : Dbt} {p y : ByteArray} (h : y ∈ callsOf d p) : y ∈ uC d.cs := by
  rcases callsL_mem h with h | ⟨c, hc, h⟩
  · cases h
  · exact uC_mem (clsOf_mem hc) h
theorem callsOf_nodup (d : Dbt) (p : ByteArray) : (callsOf d p).Nodup := callsL_nodup List.nodup_nil
def rem (x : ByteArray) : List ByteArray → List ByteArray
  | [] => []
  | y :: r => if y = x then r else y :: rem x r
theorem rem_len {x : ByteArray} {U : List ByteArray} (h : x ∈ U) : (rem x U).length + 1 = U.length := by
  induction U with
  | nil => cases h
  | cons y r ih =>
    simp only [rem]
    split
    · simp
    · rename_i hne
      rcases List.mem_cons.1 h with h | h
      · exact absurd h.symm hne
      · simp [ih h]
theorem rem_mem {x z : ByteArray} {U : List ByteArray} (h : z ∈ U) (hne : z ≠ x) : z ∈ rem x U := by
  induction U with
  | nil => cases h
  | cons y r ih =>
    simp only [rem]
    rcases List.mem_cons.1 h with rfl | h
    · rw [if_neg hne]; simp
    · split
      · exact h
      · exact List.mem_cons_of_mem _ (ih h)
theorem nodup_sub_len {xs : List ByteArray} : ∀ {U : List ByteArray}, xs.Nodup → (∀ x ∈ xs, x ∈ U) → xs.length ≤ U.length := by
  induction xs with
  | nil => intro U _ _; simp
  | cons x r ih =>
    intro U hn hs
    rw [List.nodup_cons] at hn
    have h1 := ih (U := rem x U) hn.2 fun z hz => rem_mem (hs z (by simp [hz])) fun e => hn.1 (e ▸ hz)
    have h2 := rem_len (hs x (by simp))
    simp only [List.length_cons]; omega
/-- The list of what is reached: no text twice, each called by some clause. -/
structure OkR (d : Dbt) (out : List ByteArray) : Prop where
  nd : out.Nodup
  sub : ∀ x ∈ out, x ∈ uC d.cs
theorem OkR.len {d : Dbt} {out : List ByteArray} (h : OkR d out) : out.length ≤ wC d.cs := uC_len d.cs ▸ nodup_sub_len h.nd h.sub
theorem OkR.start (d : Dbt) (p : ByteArray) : OkR d (callsOf d p) := ⟨callsOf_nodup d p, fun _ h => callsOf_sub h⟩
theorem OkR.once {d : Dbt} {out : List ByteArray} {s : ByteArray} (h : OkR d out) (hs : s ∈ uC d.cs) : OkR d (onceL out s) := ⟨onceL_nodup h.nd, fun x hx => (onceL_mem.1 hx).elim (h.sub x) fun e => e ▸ hs⟩
def reachG (d : Dbt) : Nat → Nat → List ByteArray → List ByteArray
  | 0, _, out => out
  | n + 1, i, out => match out[i]? with
    | none => out
    | some q => reachG d n (i + 1) (addAll out (callsOf d q))
def reachedFrom (d : Dbt) (p : ByteArray) : List ByteArray := reachG d (wC d.cs) 0 (callsOf d p)
end Go.Eng

/- Known predicates, and those that are missing. -/
set_option linter.unusedVariables false
set_option linter.unusedSimpArgs false
namespace Go.Eng
def idxF {α : Type} (g : α → Bool) : List α → Nat → Int
  | [], _ => -1
  | x :: r, j => if g x then j else idxF g r (j + 1)
def knownB (d : Dbt) (p : ByteArray) : Bool := hasS d.op p || d.cs.any fun c => decide (predS c.h = p)
def addMiss (d : Dbt) (out : List ByteArray) : List ByteArray → List ByteArray
  | [] => out
  | x :: r => addMiss d (if knownB d x then out else onceL out x) r
def missP (d : Dbt) : List ByteArray → List ByteArray → List ByteArray
  | [], out => out
  | p :: r, out => missP d r (addMiss d out (callsOf d p))
def missIn (d : Dbt) : List ByteArray := missP d (predsF d.cs []) []
end Go.Eng

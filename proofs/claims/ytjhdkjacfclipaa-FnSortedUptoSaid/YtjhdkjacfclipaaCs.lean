/- What a goal calls: control predicates and the walk over bodies. -/
import Derived.Test.YtjhdkjacfclipaaWn
import Derived.Test.YtjhdkjacfclipaaDb
set_option linter.unusedVariables false
namespace Go.Eng
def ctlL : List ByteArray := [⟨#[116, 114, 117, 101, 47, 48]⟩,
  ⟨#[102, 97, 105, 108, 47, 48]⟩,
  ⟨#[33, 47, 48]⟩,
  ⟨#[44, 47, 50]⟩,
  ⟨#[59, 47, 50]⟩,
  ⟨#[45, 62, 47, 50]⟩,
  ⟨#[92, 43, 47, 49]⟩,
  ⟨#[99, 97, 108, 108, 47, 49]⟩,
  ⟨#[99, 97, 108, 108, 47, 50]⟩,
  ⟨#[99, 97, 108, 108, 47, 51]⟩,
  ⟨#[99, 97, 116, 99, 104, 47, 51]⟩,
  ⟨#[116, 104, 114, 111, 119, 47, 49]⟩,
  ⟨#[61, 47, 50]⟩,
  ⟨#[92, 61, 47, 50]⟩,
  ⟨#[61, 61, 47, 50]⟩,
  ⟨#[105, 115, 47, 50]⟩,
  ⟨#[60, 47, 50]⟩,
  ⟨#[61, 58, 61, 47, 50]⟩,
  ⟨#[118, 97, 114, 47, 49]⟩,
  ⟨#[97, 116, 111, 109, 47, 49]⟩,
  ⟨#[119, 114, 105, 116, 101, 47, 49]⟩,
  ⟨#[97, 115, 115, 101, 114, 116, 122, 47, 49]⟩,
  ⟨#[114, 101, 116, 114, 97, 99, 116, 47, 49]⟩,
  ⟨#[58, 45, 47, 50]⟩,
  ⟨#[58, 45, 47, 49]⟩,
  ⟨#[45, 45, 62, 47, 50]⟩]
def ctlB (s : ByteArray) : Bool := hasS ctlL s
abbrev cComma : ByteArray := ⟨#[44, 47, 50]⟩
abbrev cSemi : ByteArray := ⟨#[59, 47, 50]⟩
abbrev cArrow : ByteArray := ⟨#[45, 62, 47, 50]⟩
abbrev cNot : ByteArray := ⟨#[92, 43, 47, 49]⟩
abbrev cCall : ByteArray := ⟨#[99, 97, 108, 108, 47, 49]⟩
abbrev cCatch : ByteArray := ⟨#[99, 97, 116, 99, 104, 47, 51]⟩

theorem digits_last (n : Nat) : ∃ l, Lib.decDigits n = l ++ [UInt8.ofNat (48 + n % 10)] ∧ (10 ≤ n → l = Lib.decDigits (n / 10)) ∧ (n < 10 → l = []) := by
  rw [Lib.decDigits]
  by_cases h : n < 10
  · rw [dif_pos h]
    exact ⟨[], by rw [Nat.mod_eq_of_lt h]; rfl, fun h2 => by omega, fun _ => rfl⟩
  · rw [dif_neg h]
    exact ⟨_, rfl, fun _ => rfl, fun h2 => absurd h2 h⟩
theorem dig_ne (k : Nat) (h : k < 10) : UInt8.ofNat (48 + k) ≠ 47 := by
  intro e
  have := congrArg UInt8.toNat e
  rw [UInt8.toNat_ofNat'] at this
  have h2 : (47 : UInt8).toNat = 47 := rfl
  rw [h2, Nat.mod_eq_of_lt (by omega)] at this
  omega
theorem dig_inj {k m : Nat} (hk : k < 10) (hm : m < 10) (h : UInt8.ofNat (48 + k) = UInt8.ofNat (48 + m)) : k = m := by
  have := congrArg UInt8.toNat h
  rw [UInt8.toNat_ofNat', UInt8.toNat_ofNat', Nat.mod_eq_of_lt (by omega), Nat.mod_eq_of_lt (by omega)] at this
  omega
/-- A goal whose predicate ends in one digit has that many arguments. -/
theorem predS_kids {t : T} (xs : List UInt8) {s : ByteArray} (d : Nat) (hd : d < 10) (he : s.data.toList = xs ++ [47] ++ [UInt8.ofNat (48 + d)]) (h : predS t = s) : t.kids.length = d := by
  subst h
  unfold predS at he
  by_cases hk : t.kind = 2 ∨ t.kind = 4
  · rw [if_pos hk, ba_app, ba_app, dec_pos (by omega), Int.toNat_natCast] at he
    obtain ⟨l, e1, e2, e3⟩ := digits_last t.kids.length
    rw [e1, ← List.append_assoc] at he
    obtain ⟨h1, h2⟩ := List.append_inj' he rfl
    have hm := dig_inj (Nat.mod_lt _ (by omega)) hd (by simpa using h2)
    by_cases h10 : t.kids.length < 10
    · rw [Nat.mod_eq_of_lt h10] at hm; exact hm
    · rw [e2 (by omega)] at h1
      obtain ⟨l2, f1, _, _⟩ := digits_last (t.kids.length / 10)
      rw [f1, ← List.append_assoc] at h1
      have h3 := (List.append_inj' h1 rfl).2
      exact absurd (by simpa using h3) (dig_ne _ (Nat.mod_lt _ (by omega)))
  · rw [if_neg hk] at he
    simp at he
theorem len2 {α : Type} {l : List α} (h : l.length = 2) : ∃ x y, l = [x, y] := by
  match l, h with
  | [x, y], _ => exact ⟨x, y, rfl⟩
theorem len1 {α : Type} {l : List α} (h : l.length = 1) : ∃ x, l = [x] := by
  match l, h with
  | [x], _ => exact ⟨x, rfl⟩
theorem len3 {α : Type} {l : List α} (h : l.length = 3) : ∃ x y z, l = [x, y, z] := by
  match l, h with
  | [x, y, z], _ => exact ⟨x, y, z, rfl⟩

section
variable {A : Type}
/-- What one goal does, its kids' walks given. -/
def actF (step : A → ByteArray → Bool → A) (p : ByteArray) (fs : List (Bool → A → A)) (neg : Bool) (a : A) : A :=
  if p = cComma ∨ p = cSemi ∨ p = cArrow then (match fs with | f :: g :: _ => g neg (f neg a) | _ => a)
  else if p = cNot then (match fs with | f :: _ => f true a | _ => a)
  else if p = cCall then (match fs with | f :: _ => f neg a | _ => a)
  else if p = cCatch then (match fs with | f :: _ :: g :: _ => g neg (f neg a) | _ => a)
  else if p = ⟨#[]⟩ ∨ ctlB p = true then a else step a p neg
mutual
def eachF (step : A → ByteArray → Bool → A) : T → Bool → A → A
  | .mk k s m ks => actF step (predS (.mk k s m ks)) (eachFs step ks)
def eachFs (step : A → ByteArray → Bool → A) : List T → List (Bool → A → A)
  | [] => []
  | t :: r => eachF step t :: eachFs step r
end
theorem eachF_mk (step : A → ByteArray → Bool → A) (k : Int) (s : ByteArray) (m : Int) (ks : List T) (neg : Bool) (a : A) : eachF step (.mk k s m ks) neg a = actF step (predS (.mk k s m ks)) (eachFs step ks) neg a := by rw [eachF]
end
/-- The walk that puts each predicate once; the sign is not looked at. -/
def stepO (a : List ByteArray) (s : ByteArray) (_ : Bool) : List ByteArray := onceL a s
def callsF (t : T) (a : List ByteArray) : List ByteArray := eachF stepO t false a
mutual
theorem eachF_neg : ∀ (t : T) (n m : Bool) (a : List ByteArray), eachF stepO t n a = eachF stepO t m a
  | .mk k s mm ks, n, m, a => by
    rw [eachF_mk, eachF_mk]
    have h := eachFs_neg ks
    generalize eachFs stepO ks = fs at h
    unfold actF
    have e1 : ∀ f ∈ fs, ∀ x y b, f x b = f y b := h
    split
    · match fs, e1 with
      | [], _ => rfl
      | [f], _ => rfl
      | f :: g :: _, e1 => simp only; rw [e1 f (by simp) n m, e1 g (by simp) n m]
    · split
      · rfl
      · split
        · match fs, e1 with
          | [], _ => rfl
          | f :: _, e1 => exact e1 f (by simp) n m a
        · split
          · match fs, e1 with
            | [], _ => rfl
            | [f], _ => rfl
            | [f, g], _ => rfl
            | f :: _ :: g :: _, e1 => simp only; rw [e1 f (by simp) n m, e1 g (by simp) n m]
          · rfl
theorem eachFs_neg : ∀ (ks : List T), ∀ f ∈ eachFs stepO ks, ∀ (n m : Bool) (a : List ByteArray), f n a = f m a
  | [], f, hf, _, _, _ => by simp [eachFs] at hf
  | t :: r, f, hf, n, m, a => by
    rw [eachFs] at hf
    rcases List.mem_cons.1 hf with rfl | hf
    · exact eachF_neg t n m a
    · exact eachFs_neg r f hf n m a
end
/-- A measure that each step raises by one at most. -/
theorem actF_le {A : Type} {step : A → ByteArray → Bool → A} {μ : A → Int} {p : ByteArray} {ks : List T} {neg : Bool} {a : A} (hs : ∀ a s n, μ (step a s n) ≤ μ a + 1)
    (hk : ∀ t ∈ ks, ∀ n a, μ (eachF step t n a) ≤ μ a + sz t) : μ (actF step p (eachFs step ks) neg a) ≤ μ a + (1 + szs ks : Nat) := by
  unfold actF
  split
  · match ks, hk with
    | [], _ => simp only [eachFs]; omega
    | [x], _ => simp only [eachFs]; omega
    | x :: y :: r, hk =>
      simp only [eachFs, szs]
      have := hk x (by simp) neg a
      have := hk y (by simp) neg (eachF step x neg a)
      push_cast at *
      omega
  · split
    · match ks, hk with
      | [], _ => simp only [eachFs]; omega
      | x :: r, hk => simp only [eachFs, szs]; have := hk x (by simp) true a; push_cast at *; omega
    · split
      · match ks, hk with
        | [], _ => simp only [eachFs]; omega
        | x :: r, hk => simp only [eachFs, szs]; have := hk x (by simp) neg a; push_cast at *; omega
      · split
        · match ks, hk with
          | [], _ => simp only [eachFs]; omega
          | [x], _ => simp only [eachFs]; omega
          | [x, y], _ => simp only [eachFs]; omega
          | x :: y :: z :: r, hk =>
            simp only [eachFs, szs]
            have := hk x (by simp) neg a
            have := hk z (by simp) neg (eachF step x neg a)
            push_cast at *
            omega
        · split
          · omega
          · have := hs a p neg; omega
theorem eachF_le {A : Type} {step : A → ByteArray → Bool → A} {μ : A → Int} (hs : ∀ a s n, μ (step a s n) ≤ μ a + 1) (t : T) : ∀ (neg : Bool) (a : A), μ (eachF step t neg a) ≤ μ a + sz t := by
  induction t using T.ind with | h k s m ks ih => ?_
  intro neg a
  rw [eachF_mk]
  exact actF_le hs ih
theorem stepO_le (a : List ByteArray) (s : ByteArray) (n : Bool) : ((stepO a s n).length : Int) ≤ a.length + 1 := by
  have := onceL_len a s
  unfold stepO; omega
theorem callsF_len (t : T) (a : List ByteArray) : ((callsF t a).length : Int) ≤ a.length + sz t := eachF_le (μ := fun a => (a.length : Int)) stepO_le t false a
section
variable {A : Type} {step : A → ByteArray → Bool → A} {k m : Int} {s : ByteArray} {x y z : T} {ks : List T} {neg : Bool} {a : A}
theorem eachF_two (h : predS (.mk k s m [x, y]) = cComma ∨ predS (.mk k s m [x, y]) = cSemi ∨ predS (.mk k s m [x, y]) = cArrow) : eachF step (.mk k s m [x, y]) neg a = eachF step y neg (eachF step x neg a) := by
  rw [eachF_mk]; unfold actF; rw [if_pos h]; simp only [eachFs]
theorem eachF_not (h : predS (.mk k s m [x]) = cNot) : eachF step (.mk k s m [x]) neg a = eachF step x true a := by
  rw [eachF_mk]; unfold actF; rw [if_neg (by rw [h]; decide), if_pos h]; simp only [eachFs]
theorem eachF_call (h : predS (.mk k s m [x]) = cCall) : eachF step (.mk k s m [x]) neg a = eachF step x neg a := by
  rw [eachF_mk]; unfold actF; rw [if_neg (by rw [h]; decide), if_neg (by rw [h]; decide), if_pos h]; simp only [eachFs]
theorem eachF_catch (h : predS (.mk k s m [x, y, z]) = cCatch) : eachF step (.mk k s m [x, y, z]) neg a = eachF step z neg (eachF step x neg a) := by
  rw [eachF_mk]; unfold actF; rw [if_neg (by rw [h]; decide), if_neg (by rw [h]; decide), if_neg (by rw [h]; decide), if_pos h]; simp only [eachFs]
theorem eachF_end (h1 : decide (predS (.mk k s m ks) = cComma) = false) (h2 : decide (predS (.mk k s m ks) = cSemi) = false) (h3 : decide (predS (.mk k s m ks) = cArrow) = false) (h4 : decide (predS (.mk k s m ks) = cNot) = false) (h5 : decide (predS (.mk k s m ks) = cCall) = false)
    (h6 : decide (predS (.mk k s m ks) = cCatch) = false) : eachF step (.mk k s m ks) neg a = if predS (.mk k s m ks) = ⟨#[]⟩ ∨ ctlB (predS (.mk k s m ks)) = true then a else step a (predS (.mk k s m ks)) neg := by
  have h1 := of_decide_eq_false h1
  have h2 := of_decide_eq_false h2
  have h3 := of_decide_eq_false h3
  rw [eachF_mk]; unfold actF; rw [if_neg (by simp [h1, h2, h3]), if_neg (of_decide_eq_false h4), if_neg (of_decide_eq_false h5), if_neg (of_decide_eq_false h6)]
end
def callsIn (t : T) : List ByteArray := if okT t = true then callsF t [] else []
theorem callsIn_len (t : T) : ((callsIn t).length : Int) ≤ sz t := by
  unfold callsIn
  split
  · have := callsF_len t []
    simpa using this
  · simp
theorem bulk_mem {k m : Int} {s : ByteArray} {ks : List T} {B : Int} (h : bulk (.mk k s m ks) ≤ B) : ∀ u ∈ ks, bulk u ≤ B := (bulk_mk h).2.2
end Go.Eng

/- What a program's predicates call. -/
set_option linter.unusedVariables false
namespace Go.Eng
def clsOf : List Cl → ByteArray → List Cl
  | [], _ => []
  | c :: r, p => if predS c.h = p then c :: clsOf r p else clsOf r p
theorem clsOf_len (cs : List Cl) (p : ByteArray) : (clsOf cs p).length ≤ cs.length := by
  induction cs with
  | nil => simp [clsOf]
  | cons c r ih => simp only [clsOf]; split <;> simp <;> omega
theorem clsOf_mem {cs : List Cl} {p : ByteArray} {c : Cl} (h : c ∈ clsOf cs p) : c ∈ cs := by
  induction cs with
  | nil => simp [clsOf] at h
  | cons d r ih =>
    simp only [clsOf] at h
    split at h
    · rcases List.mem_cons.1 h with rfl | h
      · simp
      · exact List.mem_cons_of_mem _ (ih h)
    · exact List.mem_cons_of_mem _ (ih h)
def addAll (out : List ByteArray) : List ByteArray → List ByteArray
  | [] => out
  | x :: r => addAll (onceL out x) r
theorem addAll_len (xs : List ByteArray) : ∀ out : List ByteArray, (addAll out xs).length ≤ out.length + xs.length := by
  induction xs with
  | nil => intro out; simp [addAll]
  | cons x r ih =>
    intro out
    have := ih (onceL out x)
    have := onceL_len out x
    simp only [addAll, List.length_cons]; omega
def callsL : List Cl → List ByteArray → List ByteArray
  | [], out => out
  | c :: r, out => callsL r (addAll out (callsIn c.b))
/-- How many places the calls of clauses may take. -/
def wC : List Cl → Nat
  | [] => 0
  | c :: r => (callsIn c.b).length + wC r
theorem wC_bulk (cs : List Cl) : (wC cs : Int) ≤ cs.length + bulkCs cs := by
  induction cs with
  | nil => simp [wC, bulkCs]
  | cons c r ih =>
    have h1 := callsIn_len c.b
    have h2 := sz_bulk c.b
    have h3 := bulk_nn c.h
    simp only [wC, bulkCs, bulkC, List.length_cons]
    push_cast
    omega
theorem wC_clsOf (cs : List Cl) (p : ByteArray) : wC (clsOf cs p) ≤ wC cs := by
  induction cs with
  | nil => simp [clsOf]
  | cons c r ih => simp only [clsOf]; split <;> simp only [wC] <;> omega
theorem callsL_len (cs : List Cl) : ∀ out : List ByteArray, (callsL cs out).length ≤ out.length + wC cs := by
  induction cs with
  | nil => intro out; simp [callsL]
  | cons c r ih =>
    intro out
    have := ih (addAll out (callsIn c.b))
    have := addAll_len (callsIn c.b) out
    simp only [callsL, wC]; omega
def callsOf (d : Dbt) (p : ByteArray) : List ByteArray := callsL (clsOf d.cs p) []
theorem callsOf_len (d : Dbt) (p : ByteArray) : ((callsOf d p).length : Int) ≤ d.cs.length + bulkCs d.cs := by
  have h1 := callsL_len (clsOf d.cs p) []
  have h2 := wC_clsOf d.cs p
  have h3 := wC_bulk d.cs
  unfold callsOf
  simp at h1
  omega
theorem ite_dec {α : Type} {p : Prop} [Decidable p] {a b : α} (h : decide p = true) : (if p then a else b) = a := if_pos (of_decide_eq_true h)
theorem ite_decn {α : Type} {p : Prop} [Decidable p] {a b : α} (h : decide p = false) : (if p then a else b) = b := if_neg (of_decide_eq_false h)
end Go.Eng

/- What a predicate reaches. -/
set_option linter.unusedVariables false
set_option linter.unusedSimpArgs false
namespace Go.Eng
theorem hasS_iff {xs : List ByteArray} {s : ByteArray} : hasS xs s = true ↔ s ∈ xs := by
  induction xs with
  | nil => simp [hasS]
  | cons x r ih => simp only [hasS, Bool.or_eq_true, decide_eq_true_eq, ih, List.mem_cons]; exact or_congr eq_comm Iff.rfl
theorem onceL_mem {xs : List ByteArray} {s y : ByteArray} : y ∈ onceL xs s ↔ y ∈ xs ∨ y = s := by
  unfold onceL
  by_cases h : hasS xs s = true
  · rw [if_pos h]
    have := hasS_iff.1 h
    exact ⟨.inl, fun h2 => h2.elim id fun e => e ▸ this⟩
  · rw [if_neg h]; simp
theorem onceL_nodup {xs : List ByteArray} {s : ByteArray} (h : xs.Nodup) : (onceL xs s).Nodup := by
  unfold onceL
  split
  · exact h
  · rename_i h2
    have hn : s ∉ xs := fun hm => h2 (hasS_iff.2 hm)
    rw [List.nodup_append]
    exact ⟨h, by simp, fun a ha b hb e => by simp at hb; subst hb; exact hn (e ▸ ha)⟩
theorem addAll_mem {ys : List ByteArray} : ∀ {xs : List ByteArray} {y : ByteArray}, y ∈ addAll xs ys ↔ y ∈ xs ∨ y ∈ ys := by
  induction ys with
  | nil => intro xs y; simp [addAll]
  | cons z r ih => intro xs y; rw [addAll, ih, onceL_mem, List.mem_cons, or_assoc]
theorem addAll_nodup {ys : List ByteArray} : ∀ {xs : List ByteArray}, xs.Nodup → (addAll xs ys).Nodup := by
  induction ys with
  | nil => intro xs h; exact h
  | cons z r ih => intro xs h; exact ih (onceL_nodup h)
/-- All that clauses call. -/
def uC : List Cl → List ByteArray
  | [] => []
  | c :: r => callsIn c.b ++ uC r
theorem uC_len (cs : List Cl) : (uC cs).length = wC cs := by
  induction cs with
  | nil => rfl
  | cons c r ih => simp [uC, wC, ih]
theorem uC_mem {cs : List Cl} {c : Cl} {y : ByteArray} (h : c ∈ cs) (hy : y ∈ callsIn c.b) : y ∈ uC cs := by
  induction cs with
  | nil => cases h
  | cons d r ih =>
    rcases List.mem_cons.1 h with rfl | h
    · simp [uC, hy]
    · simp [uC, ih h]
theorem callsL_mem {cs : List Cl} : ∀ {out : List ByteArray} {y : ByteArray}, y ∈ callsL cs out → y ∈ out ∨ ∃ c ∈ cs, y ∈ callsIn c.b := by
  induction cs with
  | nil => intro out y h; exact .inl h
  | cons c r ih =>
    intro out y h
    rcases ih h with h | ⟨d, hd, h⟩
    · rcases addAll_mem.1 h with h | h
      · exact .inl h
      · exact .inr ⟨c, by simp, h⟩
    · exact .inr ⟨d, by simp [hd], h⟩
theorem callsL_nodup {cs : List Cl} : ∀ {out : List ByteArray}, out.Nodup → (callsL cs out).Nodup := by
  induction cs with
  | nil => intro out h; exact h
  | cons c r ih => intro out h; exact ih (addAll_nodup h)
theorem callsOf_sub {d : Dbt} {p y : ByteArray} (h : y ∈ callsOf d p) : y ∈ uC d.cs := by
  rcases callsL_mem h with h | ⟨c, hc, h⟩
  · cases h
  · exact uC_mem (clsOf_mem hc) h
theorem callsOf_nodup (d : Dbt) (p : ByteArray) : (callsOf d p).Nodup := callsL_nodup List.nodup_nil
def rem (x : ByteArray) : List ByteArray → List ByteArray
  | [] => []
  | y :: r => if y = x then r else y :: rem x r
theorem rem_len {x : ByteArray} {U : List ByteArray} (h : x ∈ U) : (rem x U).length + 1 = U.length := by
  induction U with
  | nil => cases h
  | cons y r ih =>
    simp only [rem]
    split
    · simp
    · rename_i hne
      rcases List.mem_cons.1 h with h | h
      · exact absurd h.symm hne
      · simp [ih h]
theorem rem_mem {x z : ByteArray} {U : List ByteArray} (h : z ∈ U) (hne : z ≠ x) : z ∈ rem x U := by
  induction U with
  | nil => cases h
  | cons y r ih =>
    simp only [rem]
    rcases List.mem_cons.1 h with rfl | h
    · rw [if_neg hne]; simp
    · split
      · exact h
      · exact List.mem_cons_of_mem _ (ih h)
theorem nodup_sub_len {xs : List ByteArray} : ∀ {U : List ByteArray}, xs.Nodup → (∀ x ∈ xs, x ∈ U) → xs.length ≤ U.length := by
  induction xs with
  | nil => intro U _ _; simp
  | cons x r ih =>
    intro U hn hs
    rw [List.nodup_cons] at hn
    have h1 := ih (U := rem x U) hn.2 fun z hz => rem_mem (hs z (by simp [hz])) fun e => hn.1 (e ▸ hz)
    have h2 := rem_len (hs x (by simp))
    simp only [List.length_cons]; omega
/-- The list of what is reached: no text twice, each called by some clause. -/
structure OkR (d : Dbt) (out : List ByteArray) : Prop where
  nd : out.Nodup
  sub : ∀ x ∈ out, x ∈ uC d.cs
theorem OkR.len {d : Dbt} {out : List ByteArray} (h : OkR d out) : out.length ≤ wC d.cs := uC_len d.cs ▸ nodup_sub_len h.nd h.sub
theorem OkR.start (d : Dbt) (p : ByteArray) : OkR d (callsOf d p) := ⟨callsOf_nodup d p, fun _ h => callsOf_sub h⟩
theorem OkR.once {d : Dbt} {out : List ByteArray} {s : ByteArray} (h : OkR d out) (hs : s ∈ uC d.cs) : OkR d (onceL out s) := ⟨onceL_nodup h.nd, fun x hx => (onceL_mem.1 hx).elim (h.sub x) fun e => e ▸ hs⟩
def reachG (d : Dbt) : Nat → Nat → List ByteArray → List ByteArray
  | 0, _, out => out
  | n + 1, i, out => match out[i]? with
    | none => out
    | some q => reachG d n (i + 1) (addAll out (callsOf d q))
def reachedFrom (d : Dbt) (p : ByteArray) : List ByteArray := reachG d (wC d.cs) 0 (callsOf d p)
theorem reachG_end {d : Dbt} {n i : Nat} {out : List ByteArray} (h : ¬ i < out.length) : reachG d n i out = out := by
  cases n with
  | zero => rfl
  | succ n => rw [reachG, List.getElem?_eq_none (by omega)]
theorem reachG_step {d : Dbt} {i : Nat} {out : List ByteArray} {q : ByteArray} (hk : OkR d out) (h : out[i]? = some q) : reachG d (wC d.cs - i) i out = reachG d (wC d.cs - (i + 1)) (i + 1) (addAll out (callsOf d q)) := by
  have h1 := hk.len
  have h2 := lt_of_get h
  rw [show wC d.cs - i = (wC d.cs - (i + 1)) + 1 by omega, reachG, h]
theorem reachG_ok {d : Dbt} : ∀ (n i : Nat) (out : List ByteArray), OkR d out → OkR d (reachG d n i out)
  | 0, i, out, h => h
  | n + 1, i, out, h => by
    rw [reachG]
    split
    · exact h
    · exact reachG_ok n _ _ ⟨addAll_nodup h.nd, fun x hx => (addAll_mem.1 hx).elim (h.sub x) fun hx => callsOf_sub hx⟩
theorem reachedFrom_ok (d : Dbt) (p : ByteArray) : OkR d (reachedFrom d p) := reachG_ok _ _ _ (OkR.start d p)
theorem reachedFrom_len (d : Dbt) (p : ByteArray) : ((reachedFrom d p).length : Int) ≤ d.cs.length + bulkCs d.cs := by
  have h1 := (reachedFrom_ok d p).len
  have h2 := wC_bulk d.cs
  omega
end Go.Eng

/- Known predicates, and those that are missing. -/
set_option linter.unusedVariables false
set_option linter.unusedSimpArgs false
namespace Go.Eng
def idxF {α : Type} (g : α → Bool) : List α → Nat → Int
  | [], _ => -1
  | x :: r, j => if g x then j else idxF g r (j + 1)
theorem idxF_any {α : Type} (g : α → Bool) (xs : List α) : ∀ j : Nat, decide (0 ≤ idxF g xs j) = xs.any g := by
  induction xs with
  | nil => intro j; rfl
  | cons x r ih =>
    intro j
    simp only [idxF, List.any_cons]
    by_cases h : g x = true
    · simp [h]
    · simp [h, ih]
def knownB (d : Dbt) (p : ByteArray) : Bool := hasS d.op p || d.cs.any fun c => decide (predS c.h = p)
theorem clsOf_any (cs : List Cl) (p : ByteArray) : decide (((clsOf cs p).length : Int) > 0) = cs.any fun c => decide (predS c.h = p) := by
  rw [Bool.eq_iff_iff, decide_eq_true_eq]
  induction cs with
  | nil => simp [clsOf]
  | cons c r ih =>
    simp only [clsOf, List.any_cons]
    by_cases h : predS c.h = p
    · rw [if_pos h]
      simp only [h, decide_true, Bool.true_or, List.length_cons, iff_true]
      omega
    · rw [if_neg h, ih]
      simp [h]
def addMiss (d : Dbt) (out : List ByteArray) : List ByteArray → List ByteArray
  | [] => out
  | x :: r => addMiss d (if knownB d x then out else onceL out x) r
def missP (d : Dbt) : List ByteArray → List ByteArray → List ByteArray
  | [], out => out
  | p :: r, out => missP d r (addMiss d out (callsOf d p))
def missIn (d : Dbt) : List ByteArray := missP d (predsF d.cs []) []
theorem addMiss_ok {d : Dbt} (xs : List ByteArray) : ∀ out : List ByteArray, OkR d out → (∀ x ∈ xs, x ∈ uC d.cs) → OkR d (addMiss d out xs) := by
  induction xs with
  | nil => intro out h _; exact h
  | cons x r ih =>
    intro out h hs
    refine ih _ ?_ fun y hy => hs y (by simp [hy])
    split
    · exact h
    · exact h.once (hs x (by simp))
theorem missP_ok {d : Dbt} (ps : List ByteArray) : ∀ out : List ByteArray, OkR d out → OkR d (missP d ps out) := by
  induction ps with
  | nil => intro out h; exact h
  | cons p r ih => intro out h; exact ih _ (addMiss_ok _ _ h fun x hx => callsOf_sub hx)
theorem missIn_len (d : Dbt) : ((missIn d).length : Int) ≤ d.cs.length + bulkCs d.cs := by
  have h1 := (missP_ok (d := d) (predsF d.cs []) [] ⟨List.nodup_nil, fun _ h => by cases h⟩).len
  have h2 := wC_bulk d.cs
  unfold missIn
  omega
end Go.Eng

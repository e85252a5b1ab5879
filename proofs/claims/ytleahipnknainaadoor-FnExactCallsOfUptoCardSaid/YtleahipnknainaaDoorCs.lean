/- What a goal calls: control predicates and the walk over bodies. -/
import Derived.Test.YtleahipnknainaaDoorWn
import Derived.Test.YtleahipnknainaaDoorDb
set_option linter.unusedVariables false
namespace Go.Eng
def ctlL : List ByteArray := [⟨#[116, 114, 117, 101, 47, 48]⟩,
  ⟨#[102, 97, 105, 108, 47, 48]⟩,
  ⟨#[33, 47, 48]⟩,
  ⟨#[44, 47, 50]⟩,
  ⟨#[59, 47, 50]⟩,
  ⟨#[45, 62, 47, 50]⟩,
  ⟨#[92, 43, 47, 49]⟩,
  ⟨#[99, 97, 108, 108, 47, 49]⟩,
  ⟨#[99, 97, 108, 108, 47, 50]⟩,
  ⟨#[99, 97, 108, 108, 47, 51]⟩,
  ⟨#[99, 97, 116, 99, 104, 47, 51]⟩,
  ⟨#[116, 104, 114, 111, 119, 47, 49]⟩,
  ⟨#[61, 47, 50]⟩,
  ⟨#[92, 61, 47, 50]⟩,
  ⟨#[61, 61, 47, 50]⟩,
  ⟨#[105, 115, 47, 50]⟩,
  ⟨#[60, 47, 50]⟩,
  ⟨#[61, 58, 61, 47, 50]⟩,
  ⟨#[118, 97, 114, 47, 49]⟩,
  ⟨#[97, 116, 111, 109, 47, 49]⟩,
  ⟨#[119, 114, 105, 116, 101, 47, 49]⟩,
  ⟨#[97, 115, 115, 101, 114, 116, 122, 47, 49]⟩,
  ⟨#[114, 101, 116, 114, 97, 99, 116, 47, 49]⟩,
  ⟨#[58, 45, 47, 50]⟩,
  ⟨#[58, 45, 47, 49]⟩,
  ⟨#[45, 45, 62, 47, 50]⟩]
def ctlB (s : ByteArray) : Bool := hasS ctlL s
abbrev cComma : ByteArray := ⟨#[44, 47, 50]⟩
abbrev cSemi : ByteArray := ⟨#[59, 47, 50]⟩
abbrev cArrow : ByteArray := ⟨#[45, 62, 47, 50]⟩
abbrev cNot : ByteArray := ⟨#[92, 43, 47, 49]⟩
abbrev cCall : ByteArray := ⟨#[99, 97, 108, 108, 47, 49]⟩
abbrev cCatch : ByteArray := ⟨#[99, 97, 116, 99, 104, 47, 51]⟩

theorem digits_last (n : Nat) : ∃ l, Lib.decDigits n = l ++ [UInt8.ofNat (48 + n % 10)] ∧ (10 ≤ n → l = Lib.decDigits (n / 10)) ∧ (n < 10 → l = []) := by
  rw [Lib.decDigits]
  by_cases h : n < 10
  · rw [dif_pos h]
    exact ⟨[], by rw [Nat.mod_eq_of_lt h]; rfl, fun h2 => by omega, fun _ => rfl⟩
  · rw [dif_neg h]
    exact ⟨_, rfl, fun _ => rfl, fun h2 => absurd h2 h⟩
theorem dig_ne (k : Nat) (h : k < 10) : UInt8.ofNat (48 + k) ≠ 47 := by
  intro e
  have := congrArg UInt8.toNat e
  rw [UInt8.toNat_ofNat'] at this
  have h2 : (47 : UInt8).toNat = 47 := rfl
  rw [h2, Nat.mod_eq_of_lt (by omega)] at this
  omega
theorem dig_inj {k m : Nat} (hk : k < 10) (hm : m < 10) (h : UInt8.ofNat (48 + k) = UInt8.ofNat (48 + m)) : k = m := by
  have := congrArg UInt8.toNat h
  rw [UInt8.toNat_ofNat', UInt8.toNat_ofNat', Nat.mod_eq_of_lt (by omega), Nat.mod_eq_of_lt (by omega)] at this
  omega
/-- A goal whose predicate ends in one digit has that many arguments. -/
theorem predS_kids {t : T} (xs : List UInt8) {s : ByteArray} (d : Nat) (hd : d < 10) (he : s.data.toList = xs ++ [47] ++ [UInt8.ofNat (48 + d)]) (h : predS t = s) : t.kids.length = d := by
  subst h
  unfold predS at he
  by_cases hk : t.kind = 2 ∨ t.kind = 4
  · rw [if_pos hk, ba_app, ba_app, dec_pos (by omega), Int.toNat_natCast] at he
    obtain ⟨l, e1, e2, e3⟩ := digits_last t.kids.length
    rw [e1, ← List.append_assoc] at he
    obtain ⟨h1, h2⟩ := List.append_inj' he rfl
    have hm := dig_inj (Nat.mod_lt _ (by omega)) hd (by simpa using h2)
    by_cases h10 : t.kids.length < 10
    · rw [Nat.mod_eq_of_lt h10] at hm; exact hm
    · rw [e2 (by omega)] at h1
      obtain ⟨l2, f1, _, _⟩ := digits_last (t.kids.length / 10)
      rw [f1, ← List.append_assoc] at h1
      have h3 := (List.append_inj' h1 rfl).2
      exact absurd (by simpa using h3) (dig_ne _ (Nat.mod_lt _ (by omega)))
  · rw [if_neg hk] at he
    simp at he
theorem len2 {α : Type} {l : List α} (h : l.length = 2) : ∃ x y, l = [x, y] := by
  match l, h with
  | [x, y], _ => exact ⟨x, y, rfl⟩
theorem len1 {α : Type} {l : List α} (h : l.length = 1) : ∃ x, l = [x] := by
  match l, h with
  | [x], _ => exact ⟨x, rfl⟩
theorem len3 {α : Type} {l : List α} (h : l.length = 3) : ∃ x y z, l = [x, y, z] := by
  match l, h with
  | [x, y, z], _ => exact ⟨x, y, z, rfl⟩

section
variable {A : Type}
/-- What one goal does, its kids' walks given. -/
def actF (step : A → ByteArray → Bool → A) (p : ByteArray) (fs : List (Bool → A → A)) (neg : Bool) (a : A) : A :=
  if p = cComma ∨ p = cSemi ∨ p = cArrow then (match fs with | f :: g :: _ => g neg (f neg a) | _ => a)
  else if p = cNot then (match fs with | f :: _ => f true a | _ => a)
  else if p = cCall then (match fs with | f :: _ => f neg a | _ => a)
  else if p = cCatch then (match fs with | f :: _ :: g :: _ => g neg (f neg a) | _ => a)
  else if p = ⟨#[]⟩ ∨ ctlB p = true then a else step a p neg
mutual
def eachF (step : A → ByteArray → Bool → A) : T → Bool → A → A
  | .mk k s m ks => actF step (predS (.mk k s m ks)) (eachFs step ks)
def eachFs (step : A → ByteArray → Bool → A) : List T → List (Bool → A → A)
  | [] => []
  | t :: r => eachF step t :: eachFs step r
end
theorem eachF_mk (step : A → ByteArray → Bool → A) (k : Int) (s : ByteArray) (m : Int) (ks : List T) (neg : Bool) (a : A) : eachF step (.mk k s m ks) neg a = actF step (predS (.mk k s m ks)) (eachFs step ks) neg a := by rw [eachF]
end
/-- The walk that puts each predicate once; the sign is not looked at. -/
def stepO (a : List ByteArray) (s : ByteArray) (_ : Bool) : List ByteArray := onceL a s
def callsF (t : T) (a : List ByteArray) : List ByteArray := eachF stepO t false a
mutual
theorem eachF_neg : ∀ (t : T) (n m : Bool) (a : List ByteArray), eachF stepO t n a = eachF stepO t m a
  | .mk k s mm ks, n, m, a => by
    rw [eachF_mk, eachF_mk]
    have h := eachFs_neg ks
    generalize eachFs stepO ks = fs at h
    unfold actF
    have e1 : ∀ f ∈ fs, ∀ x y b, f x b = f y b := h
    split
    · match fs, e1 with
      | [], _ => rfl
      | [f], _ => rfl
      | f :: g :: _, e1 => simp only; rw [e1 f (by simp) n m, e1 g (by simp) n m]
    · split
      · rfl
      · split
        · match fs, e1 with
          | [], _ => rfl
          | f :: _, e1 => exact e1 f (by simp) n m a
        · split
          · match fs, e1 with
            | [], _ => rfl
            | [f], _ => rfl
            | [f, g], _ => rfl
            | f :: _ :: g :: _, e1 => simp only; rw [e1 f (by simp) n m, e1 g (by simp) n m]
          · rfl
theorem eachFs_neg : ∀ (ks : List T), ∀ f ∈ eachFs stepO ks, ∀ (n m : Bool) (a : List ByteArray), f n a = f m a
  | [], f, hf, _, _, _ => by simp [eachFs] at hf
  | t :: r, f, hf, n, m, a => by
    rw [eachFs] at hf
    rcases List.mem_cons.1 hf with rfl | hf
    · exact eachF_neg t n m a
    · exact eachFs_neg r f hf n m a
end
/-- A measure that each step raises by one at most. -/
theorem actF_le {A : Type} {step : A → ByteArray → Bool → A} {μ : A → Int} {p : ByteArray} {ks : List T} {neg : Bool} {a : A} (hs : ∀ a s n, μ (step a s n) ≤ μ a + 1)
    (hk : ∀ t ∈ ks, ∀ n a, μ (eachF step t n a) ≤ μ a + sz t) : μ (actF step p (eachFs step ks) neg a) ≤ μ a + (1 + szs ks : Nat) := by
  unfold actF
  split
  · match ks, hk with
    | [], _ => simp only [eachFs]; omega
    | [x], _ => simp only [eachFs]; omega
    | x :: y :: r, hk =>
      simp only [eachFs, szs]
      have := hk x (by simp) neg a
      have := hk y (by simp) neg (eachF step x neg a)
      push_cast at *
      omega
  · split
    · match ks, hk with
      | [], _ => simp only [eachFs]; omega
      | x :: r, hk => simp only [eachFs, szs]; have := hk x (by simp) true a; push_cast at *; omega
    · split
      · match ks, hk with
        | [], _ => simp only [eachFs]; omega
        | x :: r, hk => simp only [eachFs, szs]; have := hk x (by simp) neg a; push_cast at *; omega
      · split
        · match ks, hk with
          | [], _ => simp only [eachFs]; omega
          | [x], _ => simp only [eachFs]; omega
          | [x, y], _ => simp only [eachFs]; omega
          | x :: y :: z :: r, hk =>
            simp only [eachFs, szs]
            have := hk x (by simp) neg a
            have := hk z (by simp) neg (eachF step x neg a)
            push_cast at *
            omega
        · split
          · omega
          · have := hs a p neg; omega
theorem eachF_le {A : Type} {step : A → ByteArray → Bool → A} {μ : A → Int} (hs : ∀ a s n, μ (step a s n) ≤ μ a + 1) (t : T) : ∀ (neg : Bool) (a : A), μ (eachF step t neg a) ≤ μ a + sz t := by
  induction t using T.ind with | h k s m ks ih => ?_
  intro neg a
  rw [eachF_mk]
  exact actF_le hs ih
theorem stepO_le (a : List ByteArray) (s : ByteArray) (n : Bool) : ((stepO a s n).length : Int) ≤ a.length + 1 := by
  have := onceL_len a s
  unfold stepO; omega
theorem callsF_len (t : T) (a : List ByteArray) : ((callsF t a).length : Int) ≤ a.length + sz t := eachF_le (μ := fun a => (a.length : Int)) stepO_le t false a
section
variable {A : Type} {step : A → ByteArray → Bool → A} {k m : Int} {s : ByteArray} {x y z : T} {ks : List T} {neg : Bool} {a : A}
theorem eachF_two (h : predS (.mk k s m [x, y]) = cComma ∨ predS (.mk k s m [x, y]) = cSemi ∨ predS (.mk k s m [x, y]) = cArrow) : eachF step (.mk k s m [x, y]) neg a = eachF step y neg (eachF step x neg a) := by
  rw [eachF_mk]; unfold actF; rw [if_pos h]; simp only [eachFs]
theorem eachF_not (h : predS (.mk k s m [x]) = cNot) : eachF step (.mk k s m [x]) neg a = eachF step x true a := by
  rw [eachF_mk]; unfold actF; rw [if_neg (by rw [h]; decide), if_pos h]; simp only [eachFs]
theorem eachF_call (h : predS (.mk k s m [x]) = cCall) : eachF step (.mk k s m [x]) neg a = eachF step x neg a := by
  rw [eachF_mk]; unfold actF; rw [if_neg (by rw [h]; decide), if_neg (by rw [h]; decide), if_pos h]; simp only [eachFs]
theorem eachF_catch (h : predS (.mk k s m [x, y, z]) = cCatch) : eachF step (.mk k s m [x, y, z]) neg a = eachF step z neg (eachF step x neg a) := by
  rw [eachF_mk]; unfold actF; rw [if_neg (by rw [h]; decide), if_neg (by rw [h]; decide), if_neg (by rw [h]; decide), if_pos h]; simp only [eachFs]
theorem eachF_end (h1 : decide (predS (.mk k s m ks) = cComma) = false) (h2 : decide (predS (.mk k s m ks) = cSemi) = false) (h3 : decide (predS (.mk k s m ks) = cArrow) = false) (h4 : decide (predS (.mk k s m ks) = cNot) = false) (h5 : decide (predS (.mk k s m ks) = cCall) = false)
    (h6 : decide (predS (.mk k s m ks) = cCatch) = false) : eachF step (.mk k s m ks) neg a = if predS (.mk k s m ks) = ⟨#[]⟩ ∨ ctlB (predS (.mk k s m ks)) = true then a else step a (predS (.mk k s m ks)) neg := by
  have h1 := of_decide_eq_false h1
  have h2 := of_decide_eq_false h2
  have h3 := of_decide_eq_false h3
  rw [eachF_mk]; unfold actF; rw [if_neg (by simp [h1, h2, h3]), if_neg (of_decide_eq_false h4), if_neg (of_decide_eq_false h5), if_neg (of_decide_eq_false h6)]
end
def callsIn (t : T) : List ByteArray := if okT t = true then callsF t [] else []
theorem callsIn_len (t : T) : ((callsIn t).length : Int) ≤ sz t := by
  unfold callsIn
  split
  · have := callsF_len t []
    simpa using this
  · simp
theorem bulk_mem {k m : Int} {s : ByteArray} {ks : List T} {B : Int} (h : bulk (.mk k s m ks) ≤ B) : ∀ u ∈ ks, bulk u ≤ B := (bulk_mk h).2.2
end Go.Eng

/- Right terms, as either side tells them; flat ones; predicates. -/
import Derived.Test.YtjhdkjacfclipaaTm
import Derived.Lib.ItoaLen
set_option linter.unusedVariables false
namespace Go.Eng

def bts (s : ByteArray) : List UInt8 := s.data.toList
@[simp] theorem bts_len (s : ByteArray) : (bts s).length = s.size := by simp [bts]
theorem bts_get {s : ByteArray} {j : Nat} {u : UInt8} (h : (bts s)[j]? = some u) : s[((j : Nat) : Int).toNat]? = some u := by
  have hj := (List.getElem?_eq_some_iff.1 h).1
  have hl : j < s.size := by simpa using hj
  have : s[((j : Nat) : Int).toNat]? = some s[j] := by
    simp only [Int.toNat_natCast]
    exact getElem?_pos s j hl
  rw [this]
  rw [List.getElem?_eq_getElem hj] at h
  injection h with h
  rw [← h]
  rfl

def inB (n a b : Int) : Bool := decide (a ≤ n) && decide (n ≤ b)
def chOk (c : UInt8) : Bool := decide (33 ≤ (c.toNat : Int)) && decide ((c.toNat : Int) ≤ 126) && !decide ((c.toNat : Int) = 39) && !decide ((c.toNat : Int) = 34)
def chsOk : List UInt8 → Bool
  | [] => true
  | c :: r => chOk c && chsOk r
def nameB (s : ByteArray) : Bool := chsOk (bts s) && inB s.size 1 20
def oneB (k : Int) (s : ByteArray) (m n : Int) : Bool :=
  if k = 1 then inB m 0 99999 && decide (s = ⟨#[]⟩) && decide (n = 0)
  else if k = 2 then nameB s && decide (m = 0) && decide (n = 0)
  else if k = 3 then inB m (-999999999) 999999999 && decide (s = ⟨#[]⟩) && decide (n = 0)
  else if k = 4 then nameB s && decide (m = 0) && inB n 1 5
  else false
mutual
def sized : T → Int → Int
  | .mk k s m ks, d => if 40 < d then 401 else if oneB k s m ks.length then sizedL ks (d + 1) 1 else 401
def sizedL : List T → Int → Int → Int
  | [], _, n => n
  | t :: r, d, n => if 400 < n + sized t d then 401 else sizedL r d (n + sized t d)
end
mutual
def lcount : T → Int → Int
  | .mk _ _ _ ks, r => lcountL ks (r - 1)
def lcountL : List T → Int → Int
  | [], r => r
  | t :: ts, r => if 0 ≤ r then lcountL ts (lcount t r) else r
end
mutual
def lright : T → Int → Bool
  | .mk k s m ks, d => !decide (40 < d) && oneB k s m ks.length && lrightL ks (d + 1)
def lrightL : List T → Int → Bool
  | [], _ => true
  | t :: r, d => lright t d && lrightL r d
end
def okT (t : T) : Bool := decide (sized t 1 ≤ 400)
def okS (t : T) : Bool := decide (0 ≤ lcount t 400) && lright t 1

mutual
theorem sized_eq : ∀ (t : T) (d : Int), sized t d = if lright t d = true ∧ sz t ≤ 400 then (sz t : Int) else 401
  | .mk k s m ks, d => by
    simp only [sized, lright, sz]
    by_cases h1 : 40 < d
    · simp [h1]
    · by_cases h2 : oneB k s m ks.length = true
      · rw [if_neg h1, if_pos h2, sizedL_eq ks (d + 1) 1 (by omega) (by omega)]
        simp only [h1, h2, decide_false, Bool.not_false, Bool.true_and]
        by_cases h3 : lrightL ks (d + 1) = true ∧ 1 + (szs ks : Int) ≤ 400
        · rw [if_pos h3, if_pos ⟨h3.1, by omega⟩]; push_cast; rfl
        · rw [if_neg h3, if_neg (fun h => h3 ⟨h.1, by have := h.2; omega⟩)]
      · rw [if_neg h1, if_neg h2]
        simp [h2]
theorem sizedL_eq : ∀ (ks : List T) (d n : Int), 0 ≤ n → n ≤ 400 → sizedL ks d n = if lrightL ks d = true ∧ n + szs ks ≤ 400 then n + szs ks else 401
  | [], d, n, h0, h1 => by simp [sizedL, lrightL, szs, h1]
  | t :: r, d, n, h0, h1 => by
    simp only [sizedL, lrightL, szs, Bool.and_eq_true]
    have hs := sized_eq t d
    have hp := sz_pos t
    by_cases h2 : lright t d = true ∧ sz t ≤ 400
    · rw [if_pos h2] at hs
      rw [hs]
      by_cases h3 : 400 < n + (sz t : Int)
      · rw [if_pos h3, if_neg (fun h => by have := h.2; push_cast at this; omega)]
      · rw [if_neg h3, sizedL_eq r d (n + sz t) (by omega) (by omega)]
        by_cases h4 : lrightL r d = true ∧ n + (sz t : Int) + szs r ≤ 400
        · rw [if_pos h4, if_pos ⟨⟨h2.1, h4.1⟩, by push_cast; omega⟩]; push_cast; omega
        · rw [if_neg h4, if_neg (fun h => h4 ⟨h.1.2, by have := h.2; push_cast at this; omega⟩)]
    · rw [if_neg h2] at hs
      rw [hs, if_pos (by omega), if_neg (fun h => h2 ⟨h.1.1, by have := h.2; push_cast at this; omega⟩)]
end
theorem sized_bd (t : T) (d : Int) : 0 ≤ sized t d ∧ sized t d ≤ 401 := by
  rw [sized_eq]; split <;> omega
mutual
theorem lcount_eq : ∀ (t : T) (r : Int), ((sz t : Int) ≤ r → lcount t r = r - sz t) ∧ (r < sz t → lcount t r < 0)
  | .mk k s m ks, r => by
    simp only [lcount, sz]
    have := lcountL_eq ks (r - 1)
    push_cast
    exact ⟨fun h => by rw [this.1 (by omega) (by omega)]; omega, fun h => this.2 (by omega)⟩
theorem lcountL_eq : ∀ (ks : List T) (r : Int), (0 ≤ r → (szs ks : Int) ≤ r → lcountL ks r = r - szs ks) ∧ (r < 0 ∨ r < (szs ks : Int) → lcountL ks r < 0)
  | [], r => by
    simp only [lcountL, szs]
    exact ⟨fun _ _ => by omega, fun h => by omega⟩
  | t :: ts, r => by
    simp only [lcountL, szs]
    have hp := sz_pos t
    push_cast
    by_cases h0 : 0 ≤ r
    · rw [if_pos h0]
      have h1 := lcount_eq t r
      have h2 := lcountL_eq ts (lcount t r)
      refine ⟨fun _ h => ?_, fun h => ?_⟩
      · have e := h1.1 (by omega)
        rw [e] at h2 ⊢
        rw [h2.1 (by omega) (by omega)]
        omega
      · by_cases h3 : (sz t : Int) ≤ r
        · have e := h1.1 h3
          rw [e] at h2 ⊢
          exact h2.2 (by omega)
        · exact h2.2 (.inl (h1.2 (by omega)))
    · rw [if_neg h0]
      exact ⟨fun h => absurd h h0, fun _ => by omega⟩
end
mutual
theorem lcount_bd : ∀ (t : T) (r : Int), 0 ≤ r → -1 ≤ lcount t r ∧ lcount t r ≤ r
  | .mk k s m ks, r, h => by
    simp only [lcount]
    have := lcountL_bd ks (r - 1) (by omega)
    omega
theorem lcountL_bd : ∀ (ks : List T) (r : Int), -1 ≤ r → -1 ≤ lcountL ks r ∧ lcountL ks r ≤ r
  | [], r, h => by simp [lcountL, h]
  | t :: ts, r, h => by
    simp only [lcountL]
    split
    · rename_i h0
      have h1 := lcount_bd t r h0
      have h2 := lcountL_bd ts (lcount t r) h1.1
      omega
    · omega
end
theorem okS_eq (t : T) : okS t = okT t := by
  have h1 := lcount_eq t 400
  have h2 := sized_eq t 1
  unfold okS okT
  rw [h2]
  by_cases h3 : sz t ≤ 400
  · have h1 := h1.1 (by omega)
    cases h4 : lright t 1 with
    | true => simp [h1, h3]
    | false => simp
  · have h1 := h1.2 (by omega)
    simp [h3]
    omega
theorem bulkL_mem {ks : List T} {u : T} (h : u ∈ ks) : bulk u ≤ bulkL ks := by
  induction ks with
  | nil => cases h
  | cons v r ih =>
    have h1 := bulk_nn v
    have h2 := bulkL_nn r
    rcases List.mem_cons.1 h with rfl | h
    · simp only [bulkL]; omega
    · have := ih h
      simp only [bulkL]; omega
theorem bulk_mk {k m : Int} {s : ByteArray} {ks : List T} {B : Int} (h : bulk (.mk k s m ks) ≤ B) : (s.size : Int) ≤ B ∧ (ks.length : Int) ≤ B ∧ ∀ u ∈ ks, bulk u ≤ B := by
  simp only [bulk, bulkS_eq] at h
  have hn := bulkL_nn ks
  exact ⟨by omega, by omega, fun u hu => by have := bulkL_mem hu; omega⟩

def dec (n : Int) : ByteArray := ⟨(Lib.itoa n).toArray⟩
def slash : ByteArray := ⟨#[47]⟩
def predS (t : T) : ByteArray := if t.kind = 2 ∨ t.kind = 4 then t.name ++ slash ++ dec t.kids.length else ⟨#[]⟩
def anyS : List T → Bool
  | [] => false
  | t :: r => decide (t.kind = 4) || anyS r
def flatT (t : T) : Bool := !anyS t.kids && (decide (t.kind = 2) || decide (t.kind = 4)) && okT t
def flatS (t : T) : Bool := if t.kind = 2 then okT t else !anyS t.kids && decide (t.kind = 4) && okT t
end Go.Eng

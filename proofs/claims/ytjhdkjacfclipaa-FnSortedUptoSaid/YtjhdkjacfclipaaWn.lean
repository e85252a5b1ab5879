/- Warnings and numbers as texts, as either side writes them. -/
import Derived.Test.YtjhdkjacfclipaaOk
import Derived.Test.YtjhdkjacfclipaaEng25
set_option linter.unusedVariables false
namespace Go.Eng
structure Wn where
  k : Int
  a : Int
  t : ByteArray
abbrev LW : Lay := .st [.one, .one, .one]
def injW : Wn → D
  | ⟨k, a, t⟩ => .agg [.one, .one, .one] [.c (.int .i64 k), .c (.int .i64 a), .c (.string t)]
def wword (k : Int) : ByteArray := if k = 1 then ⟨#[115, 105, 110, 103, 108, 101]⟩ else if k = 2 then ⟨#[97, 112, 97, 114, 116]⟩ else if k = 3 then ⟨#[109, 105, 115, 115, 105, 110, 103]⟩ else if k = 4 then ⟨#[116, 119, 105, 99, 101]⟩ else ⟨#[63]⟩
def sp1 : ByteArray := ⟨#[32]⟩
def wsay (w : Wn) : ByteArray := dec (max w.a 0) ++ sp1 ++ wword w.k
def wshow (w : Wn) : ByteArray := if w.t = ⟨#[]⟩ then wsay w else wsay w ++ (sp1 ++ w.t)
theorem wword_size (k : Int) : (wword k).size ≤ 7 := by
  unfold wword
  repeat (split; exact Nat.le_of_ble_eq_true rfl)
  exact Nat.le_of_ble_eq_true rfl
theorem inB14 {k : Int} (h : inB k 1 4 = true) : k = 1 ∨ k = 2 ∨ k = 3 ∨ k = 4 := by
  simp only [inB, Bool.and_eq_true, decide_eq_true_eq] at h
  omega
theorem inB14n {k : Int} (h : inB k 1 4 = false) : wword k = ⟨#[63]⟩ := by
  simp only [inB, Bool.and_eq_false_iff, decide_eq_false_iff_not] at h
  unfold wword
  rw [if_neg (by omega), if_neg (by omega), if_neg (by omega), if_neg (by omega)]

theorem ba_ext {a b : ByteArray} (h : a.data.toList = b.data.toList) : a = b := by
  cases a; cases b
  simp only at h
  congr 1
  exact Array.toList_inj.1 h
theorem ba_app (a b : ByteArray) : (a ++ b).data.toList = a.data.toList ++ b.data.toList := by simp
theorem dec_pos {n : Int} (h : 0 ≤ n) : (dec n).data.toList = Lib.decDigits n.toNat := by
  have : Lib.itoa n = Lib.decDigits n.toNat := by unfold Lib.itoa; rw [if_neg (by omega)]
  simp [dec, this]
theorem dec_zero : dec 0 = ⟨#[48]⟩ := ba_ext (by rw [dec_pos (Int.le_refl _)]; rw [Lib.decDigits]; rfl)
/-- The digits that are still to come, ahead of those that stand. -/
def toCome (n : Int) : List UInt8 := if n = 0 then [] else Lib.decDigits n.toNat
theorem toCome_step {n : Int} (h : 0 < n) : toCome n = toCome (n.tdiv 10) ++ [UInt8.ofNat (48 + (n.tmod 10).toNat)] := by
  have hd : n.tdiv 10 = ((n.toNat / 10 : Nat) : Int) := by
    obtain ⟨m, rfl⟩ : ∃ m : Nat, n = m := ⟨n.toNat, by omega⟩
    simp [Int.tdiv_eq_ediv_of_nonneg]
  have hm : n.tmod 10 = ((n.toNat % 10 : Nat) : Int) := by
    obtain ⟨m, rfl⟩ : ∃ m : Nat, n = m := ⟨n.toNat, by omega⟩
    simp [Int.tmod_eq_emod_of_nonneg]
  rw [hm, hd]
  unfold toCome
  rw [if_neg (by omega)]
  simp only [Int.toNat_natCast]
  conv => lhs; rw [Lib.decDigits]
  by_cases h1 : n.toNat < 10
  · rw [dif_pos h1, if_pos (by have : n.toNat / 10 = 0 := by omega
                               rw [this]; rfl)]
    rw [Nat.mod_eq_of_lt h1]; rfl
  · rw [dif_neg h1, if_neg (by omega)]
theorem wrap8 (x : Int) (h0 : 0 ≤ x) (h1 : x ≤ 255) : IntKind.u8.wrap x = x := by
  simp [IntKind.wrap, IntKind.signed, IntKind.bits]; omega
theorem tdm10 {n : Int} (h : 0 < n) : 0 ≤ n.tdiv 10 ∧ n.tdiv 10 < n ∧ 0 ≤ n.tmod 10 ∧ n.tmod 10 ≤ 9 := by
  have := Int.tdiv_eq_ediv_of_nonneg (a := n) (b := 10) (by omega)
  have := Int.tmod_eq_emod_of_nonneg (a := n) (b := 10) (by omega)
  omega
end Go.Eng

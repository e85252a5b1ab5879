/- Draws: plain lemmas. -/
import Derived.Test.YtjhdkjacfclipaaCu
set_option linter.unusedVariables false
set_option linter.unusedSimpArgs false
namespace Go.Eng
theorem u8s_get {xs : List Int} {j : Nat} {u : Int} (h : xs[j]? = some u) : (u8s xs)[j]? = some (.c (.int .u8 u)) := by simp [u8s, h]
section
variable {P : Program} {C : Cx} {n : Nat} {f : Fr} {L : Hp} {dst : Option Tmp} {ty : TypeId} {pos : String} {after : Array Edge} {g : Option (Nat × Bool)}
theorem Ev_len_u8s {t e : TypeId} {x : Operand} {l : Lay} {ks : List Int} (ht : tyElem P t = some e) (hx : ev f x = .d (.sl l (u8s ks))) : Ev P C n ⟨dst, callB .len #[x] #[t], ty, pos, after, g⟩ f L (i64 ks.length) := by
  have := Ev_len_sl (P := P) (C := C) (n := n) (L := L) (dst := dst) (ty := ty) (pos := pos) (after := after) (g := g) ht hx
  rwa [u8s_length] at this
theorem EA_len_u8s {t e : TypeId} {x : Operand} {l : Lay} {ks : List Int} (ht : tyElem P t = some e) (hx : ev f x = .d (.sl l (u8s ks))) : EvA P n ⟨dst, callB .len #[x] #[t], ty, pos, after, g⟩ f L (i64 ks.length) := fun C_ f2_ hf_ L2_ hL_ => Ev_len_u8s ht ((hf_ x (by simp [Op.operands, Call.operands])).trans hx)
end
theorem VwL_one {L : Hp} {src : List (Option Nat)} {x y : D} (h : x = y) : VwL L src [V.d x] [V.d y] := by subst h; exact .cons (.rd .d) .nil
/-! ### Terms that are drawn -/
abbrev nmDot : ByteArray := ⟨#[46]⟩
abbrev nmNil : ByteArray := ⟨#[91, 93]⟩
abbrev atom0 (s : ByteArray) : T := .mk 2 s 0 []
def mkList : List T → T
  | [] => atom0 nmNil
  | t :: r => .mk 4 nmDot 0 [t, mkList r]
theorem mkList_drop {ks : List T} {j : Nat} {u : T} (h : ks[j]? = some u) : mkList (ks.drop j) = .mk 4 nmDot 0 [u, mkList (ks.drop (j + 1))] := by rw [drop_get h, mkList]
/-- How great a term is that is drawn so deep. -/
def pw : Nat → Int
  | 0 => 5
  | d + 1 => 5 * pw d
theorem pw_pos : ∀ d, 5 ≤ pw d
  | 0 => Int.le_refl _
  | d + 1 => by have := pw_pos d; simp only [pw]; omega
theorem bulk_few {B : Int} {s : ByteArray} {k m : Int} {ks : List T} (hB : 5 ≤ B) (hs : s.size ≤ 3) (hl : ks.length ≤ 3) (h : ∀ t ∈ ks, bulk t + 2 ≤ B) : bulk (.mk k s m ks) + 2 ≤ 5 * B := by
  simp only [bulk, bulkS_eq]
  match ks, hl, h with
  | [], _, _ => simp only [bulkL, List.length_nil]; omega
  | [a], _, h => have := h a (by simp); simp only [bulkL, List.length_cons, List.length_nil]; omega
  | [a, b], _, h => have := h a (by simp); have := h b (by simp); simp only [bulkL, List.length_cons, List.length_nil]; omega
  | [a, b, c], _, h => have := h a (by simp); have := h b (by simp); have := h c (by simp); simp only [bulkL, List.length_cons, List.length_nil]; omega
  | _ :: _ :: _ :: _ :: _, hl, _ => simp at hl
theorem pw_pred {d : Nat} (h : 0 < d) : pw d = 5 * pw (d - 1) := by
  cases d with
  | zero => omega
  | succ d => rfl
theorem bulk_leaf (k m : Int) (s : ByteArray) : bulk (.mk k s m []) = s.size := by simp [bulk, bulkS, bulkL]
theorem bulk_leaf0 (k m : Int) : bulk (.mk k ⟨#[]⟩ m []) = 0 := by rw [bulk_leaf]; rfl
theorem pw3 : pw 3 = 625 := rfl
/-! ### Heights -/
mutual
def hgt : T → Nat
  | .mk _ _ _ ks => 1 + hgtL ks
def hgtL : List T → Nat
  | [] => 0
  | t :: r => max (hgt t) (hgtL r)
end
theorem hgtL_le {h : Nat} : ∀ {ks : List T}, (∀ t ∈ ks, hgt t ≤ h) → hgtL ks ≤ h
  | [], _ => Nat.zero_le _
  | t :: r, k => by
    have h1 := k t (by simp)
    have h2 : hgtL r ≤ h := hgtL_le fun u hu => k u (by simp [hu])
    simp only [hgtL]
    omega
theorem hgtL_mem : ∀ {ks : List T} {t : T}, t ∈ ks → hgt t ≤ hgtL ks
  | [], _, h => by cases h
  | u :: r, t, h => by
    simp only [hgtL]
    rcases List.mem_cons.1 h with rfl | h
    · omega
    · have := hgtL_mem h; omega
theorem hgt_mk {h : Nat} {k m : Int} {s : ByteArray} {ks : List T} (k0 : ∀ t ∈ ks, hgt t ≤ h) : hgt (.mk k s m ks) ≤ h + 1 := by
  have := hgtL_le k0
  simp only [hgt]
  omega
theorem hgt_leaf (k m : Int) (s : ByteArray) : hgt (.mk k s m []) = 1 := rfl
/-! ### Places of terms; what sorted lists hold -/
def idxB (g : T → Bool) : List T → Nat → Int
  | [], _ => -1
  | x :: r, j => if g x = true then (j : Int) else idxB g r (j + 1)
def Stc (xs : List T) : Prop := xs.Pairwise fun a b => cmpT a b < 0
end Go.Eng

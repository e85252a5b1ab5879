/- The engine: a slice of bytes as a string; the text that a mark writes. -/
import Derived.Test.YtleahipnknainaaDoorEng22
set_option linter.unusedVariables false
set_option linter.unusedSimpArgs false
namespace Go.Eng

def u8s (xs : List Int) : List D := xs.map fun n => .c (.int .u8 n)
@[simp] theorem u8s_length (xs : List Int) : (u8s xs).length = xs.length := by simp [u8s]
theorem u8s_cells {S : Nat → Prop} {w : World} : ∀ (xs : List Int) (cs : List Value), DCs S w (List.replicate xs.length .one) (u8s xs) cs → cs = xs.map (Value.int .u8)
  | [], cs, h => by
    simp only [u8s, List.map_nil, DCs] at h
    simpa using h.2
  | x :: xs, cs, h => by
    simp only [u8s, List.map_cons, List.length_cons, List.replicate_succ, DCs] at h
    obtain ⟨f, fr, c1, c2, e, rfl, h3, h4, h5⟩ := h
    injection e with e1 e2
    subst e1; subst e2
    simp only [DC] at h4
    rw [h4.1, u8s_cells xs c2 h5]
    rfl
section
variable {P : Program} {C : Cx} {n : Nat} {f : Fr} {L : Hp} {dst : Option Tmp} {ty : TypeId} {pos : String} {after : Array Edge} {g : Option (Nat × Bool)}
theorem Ev_conv_bytes {s d e : TypeId} {x : Operand} (xs : List Int) (hs : tyElem P s = some e) (he : tyInt P e = some .u8) (hd : tyStr P d = true) (hx : ev f x = .d (.sl .one (u8s xs))) (hpos : 0 < xs.length) :
    Ev P C n ⟨dst, .convert s d x, ty, pos, after, g⟩ f L (st (strOfNums xs)) := by
  intro a w β S hr
  have hv := rel_ev hr x
  rw [hx] at hv
  obtain ⟨A, cap, h1, h2, h3, h4⟩ := VR_sl hv
  rw [u8s_length] at h1 h4
  have hd' : P.underlying d = some .string := by
    unfold tyStr at hd
    split at hd
    · assumption
    · cases hd
  have he' : P.underlying e = some (.int .u8) := by
    unfold tyInt at he
    split at he
    · rename_i k hk
      injection he with he
      subst he
      exact hk
    · cases he
  rcases h4 with h4 | ⟨b, off, ds, rfl, hb, hdc, hc⟩
  · omega
  · have hds := u8s_cells xs ds hdc
    subst hds
    have hrun := run_convert_bytes_arg (P := P) w s e (elem_some hs) he' b off xs.length cap xs rfl (fun i hi => by
      have : (xs.map (Value.int .u8))[i]? = some (.int .u8 (xs.getD i 0)) := by simp [List.getD, hi]
      exact hc i _ this) d hd'
    refine ⟨_, ?_, VR_c.2 ⟨rfl, rfl⟩⟩
    simp only [execOp, h1, hrun, Sem.run_bind, Result.andThen]
    rfl
end

/-- The digits of a number ahead of a text. -/
def digs : Nat → Int → ByteArray → ByteArray
  | 0, _, s => s
  | n + 1, k, s => if 0 < k then digs n (Int.tdiv k 10) (strOfNums [IntKind.u8.wrap (IntKind.i64.wrap (48 + Int.tmod k 10))] ++ s) else s
theorem tdiv10 {k : Int} (h : 0 < k) : 0 ≤ Int.tdiv k 10 ∧ (Int.tdiv k 10) < k := by
  rw [Int.tdiv_eq_ediv_of_nonneg (by omega)]
  omega
theorem digs_fuel : ∀ (n m : Nat) (k : Int) (s : ByteArray), k.toNat ≤ n → k.toNat ≤ m → digs n k s = digs m k s
  | 0, 0, k, s, _, _ => rfl
  | 0, m + 1, k, s, h, _ => by
    have : ¬ 0 < k := by omega
    simp [digs, this]
  | n + 1, 0, k, s, _, h => by
    have : ¬ 0 < k := by omega
    simp [digs, this]
  | n + 1, m + 1, k, s, h1, h2 => by
    simp only [digs]
    split
    · rename_i hk
      have := tdiv10 hk
      exact digs_fuel n m _ _ (by omega) (by omega)
    · rfl
def mtext (k : Int) : ByteArray := if k ≤ 0 then ⟨#[109, 48]⟩ else ⟨#[109]⟩ ++ digs k.toNat k ⟨#[]⟩
theorem digs_step {k : Int} {s : ByteArray} (hk : 0 < k) : digs k.toNat k s = digs (Int.tdiv k 10).toNat (Int.tdiv k 10) (strOfNums [IntKind.u8.wrap (IntKind.i64.wrap (48 + Int.tmod k 10))] ++ s) := by
  have := tdiv10 hk
  obtain ⟨n, hn⟩ : ∃ n, k.toNat = n + 1 := ⟨k.toNat - 1, by omega⟩
  rw [hn]
  simp only [digs, if_pos hk]
  exact digs_fuel _ _ _ _ (by omega) (Nat.le_refl _)
theorem digs_zero {s : ByteArray} : digs 0 0 s = s := rfl

theorem Mk.refl (C : Cx) (K : List Nat) : Mk C K C := ⟨⟨rfl, rfl, rfl, Nat.le_refl _, fun _ _ _ => rfl⟩, fun _ h => .inl h, fun _ h => h, fun _ h => .inl h⟩
theorem iota_succ : ∀ (j : Nat) (k : Int), iota k (j + 1) = iota k j ++ [k + j]
  | 0, k => by simp [iota]
  | j + 1, k => by
    have := iota_succ j (k + 1)
    rw [iota, this]
    simp [iota]
    omega
abbrev vi (n : Int) : Value := .int .i64 n
theorem iota_set {xs : List Int} {tail : List Value} {j : Nat} {k : Int} (h : j < xs.length) : ((iota k j ++ xs.drop j).map vi ++ tail).set j (vi (k + j)) = (iota k (j + 1) ++ xs.drop (j + 1)).map vi ++ tail := by
  rw [iota_succ, List.drop_eq_getElem_cons h]
  simp only [List.map_append, List.map_cons, List.map_nil, List.append_assoc]
  rw [List.set_append_right _ _ (by simp)]
  simp
theorem Trs_ints {w : World} : ∀ (xs : List Int) (cs : List Value) (K : List Nat), Trs w (List.replicate xs.length .one) (ints xs) cs K → cs = xs.map vi ∧ K = []
  | [], cs, K, h => by
    simp only [ints, List.map_nil, Trs] at h
    exact ⟨by simpa using h.2.1, h.2.2⟩
  | x :: xs, cs, K, h => by
    simp only [ints, List.map_cons, List.length_cons, List.replicate_succ, Trs] at h
    obtain ⟨f, fr, c1, c2, M1, M2, e, rfl, h3, rfl, h5, h6, h7⟩ := h
    injection e with e1 e2
    subst e1; subst e2
    simp only [Tr] at h6
    obtain ⟨q1, q2⟩ := Trs_ints xs c2 M2 h7
    rw [h6.1, h6.2.2, q1, q2]
    exact ⟨rfl, rfl⟩
theorem ints_Trs {w : World} : ∀ (xs : List Int), Trs w (List.replicate xs.length .one) (ints xs) (xs.map vi) []
  | [] => by simp [ints, Trs]
  | x :: xs => by
    simp only [ints, List.map_cons, List.length_cons, List.replicate_succ, Trs]
    exact ⟨_, _, [vi x], xs.map vi, [], [], rfl, rfl, rfl, rfl, by simp, by simp [Tr, Value.scalar], ints_Trs xs⟩
/-- A list of numbers that stands apart, opened. -/
theorem open_ints {B : Nat} {C : Cx} {xs : List Int} {cs : List Value} {K : List Nat} (h : Has B C (.sl .one (ints xs)) cs K) :
    (cs = [.slice none 0 0] ∧ xs = [] ∧ K = []) ∨ ∃ b Cp tail ty, K = [b] ∧ cs = [rawS b xs.length Cp] ∧ Blk C b (xs.map vi ++ tail) ty ∧ (xs.map vi ++ tail).length = Cp ∧ xs.length ≤ Cp ∧ Cp ≤ maxLen ∧ xs.length ≤ lim := by
  have ht := h.tr
  simp only [Tr, ints_length] at ht
  rcases ht with ⟨h1, h2, h3⟩ | ⟨b, Cp, cur, ty, vs, M', rfl, h2, h3, h4, h5, h6, h7, h8, h9, h10⟩
  · exact .inl ⟨h1, by simpa [ints] using h2, h3⟩
  · obtain ⟨rfl, rfl⟩ := Trs_ints xs vs M' h9
    have hcur : cur.toList = xs.map vi ++ cur.toList.drop xs.length := by
      have : cur.toList.take xs.length = xs.map vi := by
        apply List.ext_getElem?
        intro i
        by_cases hi : i < xs.length
        · rw [List.getElem?_take_of_lt hi]
          have := h10 i (vi xs[i]) (by simp [hi])
          rw [Array.getElem?_toList, this]
          simp [hi]
        · rw [List.getElem?_eq_none (by simp; omega), List.getElem?_eq_none (by simp; omega)]
      rw [← this, List.take_append_drop]
    refine .inr ⟨b, Cp, cur.toList.drop xs.length, ty, rfl, h3, ⟨?_, h.dm b (by simp), h.s0 b (by simp)⟩, ?_, h6, h7, h8⟩
    · rw [← hcur]; simpa using h4
    · rw [← hcur]; simpa [Lay.len] using h5
theorem close_ints {C : Cx} {ys : List Int} {b Cp : Nat} {tail : List Value} {ty : TypeId} (hb : Blk C b (ys.map vi ++ tail) ty) (hl : (ys.map vi ++ tail).length = Cp) (h1 : ys.length ≤ Cp) (h2 : Cp ≤ maxLen) (h3 : ys.length ≤ lim) : Has 0 C (.sl .one (ints ys)) [rawS b ys.length Cp] [b] := by
  refine ⟨?_, fun b' hb' => by rw [List.mem_singleton] at hb'; rw [hb']; exact hb.dm, fun b' hb' => by rw [List.mem_singleton] at hb'; rw [hb']; exact hb.s0, fun _ _ => Nat.zero_le _⟩
  simp only [Tr, ints_length]
  refine .inr ⟨b, Cp, _, ty, ys.map vi, [], rfl, by simp, rfl, hb.hp, by simp only [Lay.len]; simpa using hl, h1, h2, h3, ints_Trs ys, fun j x hx => ?_⟩
  have hj := lt_of_get hx
  simp only [List.getElem?_toArray]
  rw [List.getElem?_append_left hj]
  exact hx
end Go.Eng

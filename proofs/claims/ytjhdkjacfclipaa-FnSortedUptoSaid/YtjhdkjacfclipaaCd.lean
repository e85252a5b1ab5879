/- Draws: plain lemmas. -/
import Derived.Test.YtjhdkjacfclipaaCu
set_option linter.unusedVariables false
set_option linter.unusedSimpArgs false
namespace Go.Eng
theorem u8s_get {xs : List Int} {j : Nat} {u : Int} (h : xs[j]? = some u) : (u8s xs)[j]? = some (.c (.int .u8 u)) := by simp [u8s, h]
section
variable {P : Program} {C : Cx} {n : Nat} {f : Fr} {L : Hp} {dst : Option Tmp} {ty : TypeId} {pos : String} {after : Array Edge} {g : Option (Nat × Bool)}
theorem Ev_len_u8s {t e : TypeId} {x : Operand} {l : Lay} {ks : List Int} (ht : tyElem P t = some e) (hx : ev f x = .d (.sl l (u8s ks))) : Ev P C n ⟨dst, callB .len #[x] #[t], ty, pos, after, g⟩ f L (i64 ks.length) := by
  have := Ev_len_sl (P := P) (C := C) (n := n) (L := L) (dst := dst) (ty := ty) (pos := pos) (after := after) (g := g) ht hx
  rwa [u8s_length] at this
theorem EA_len_u8s {t e : TypeId} {x : Operand} {l : Lay} {ks : List Int} (ht : tyElem P t = some e) (hx : ev f x = .d (.sl l (u8s ks))) : EvA P n ⟨dst, callB .len #[x] #[t], ty, pos, after, g⟩ f L (i64 ks.length) := fun C_ f2_ hf_ L2_ hL_ => Ev_len_u8s ht ((hf_ x (by simp [Op.operands, Call.operands])).trans hx)
end
/-! ### Terms that are drawn -/
abbrev nmDot : ByteArray := ⟨#[46]⟩
abbrev nmNil : ByteArray := ⟨#[91, 93]⟩
abbrev atom0 (s : ByteArray) : T := .mk 2 s 0 []
def mkList : List T → T
  | [] => atom0 nmNil
  | t :: r => .mk 4 nmDot 0 [t, mkList r]
theorem mkList_drop {ks : List T} {j : Nat} {u : T} (h : ks[j]? = some u) : mkList (ks.drop j) = .mk 4 nmDot 0 [u, mkList (ks.drop (j + 1))] := by rw [drop_get h, mkList]
theorem bulk_atom (s : ByteArray) : bulk (atom0 s) = s.size := by simp [bulk, bulkS, bulkL]
/-- How great a term is that is drawn so deep. -/
def pw : Nat → Int
  | 0 => 5
  | d + 1 => 5 * pw d
theorem pw_pos : ∀ d, 5 ≤ pw d
  | 0 => Int.le_refl _
  | d + 1 => by have := pw_pos d; simp only [pw]; omega
theorem bulk_few {B : Int} {s : ByteArray} {k m : Int} {ks : List T} (hB : 5 ≤ B) (hs : s.size ≤ 3) (hl : ks.length ≤ 3) (h : ∀ t ∈ ks, bulk t + 2 ≤ B) : bulk (.mk k s m ks) + 2 ≤ 5 * B := by
  simp only [bulk, bulkS_eq]
  match ks, hl, h with
  | [], _, _ => simp only [bulkL, List.length_nil]; omega
  | [a], _, h => have := h a (by simp); simp only [bulkL, List.length_cons, List.length_nil]; omega
  | [a, b], _, h => have := h a (by simp); have := h b (by simp); simp only [bulkL, List.length_cons, List.length_nil]; omega
  | [a, b, c], _, h => have := h a (by simp); have := h b (by simp); have := h c (by simp); simp only [bulkL, List.length_cons, List.length_nil]; omega
  | _ :: _ :: _ :: _ :: _, hl, _ => simp at hl
theorem pw_pred {d : Nat} (h : 0 < d) : pw d = 5 * pw (d - 1) := by
  cases d with
  | zero => omega
  | succ d => rfl
theorem bulk_leaf (k m : Int) (s : ByteArray) : bulk (.mk k s m []) = s.size := by simp [bulk, bulkS, bulkL]
theorem bulk_leaf0 (k m : Int) : bulk (.mk k ⟨#[]⟩ m []) = 0 := by rw [bulk_leaf]; rfl
theorem pw3 : pw 3 = 625 := rfl
/-! ### Places of terms; what sorted lists hold -/
def idxB (g : T → Bool) : List T → Nat → Int
  | [], _ => -1
  | x :: r, j => if g x = true then (j : Int) else idxB g r (j + 1)
theorem idxB_mem {t : T} : ∀ {ks : List T} {j : Nat}, t ∈ ks → 0 ≤ idxB (fun x => sameB x t) ks j
  | [], j, h => by cases h
  | x :: r, j, h => by
    rw [idxB]
    split
    · omega
    · rename_i hn
      rcases List.mem_cons.1 h with rfl | h
      · exact absurd ((sameB_iff t t).2 rfl) hn
      · exact idxB_mem h
def Stc (xs : List T) : Prop := xs.Pairwise fun a b => cmpT a b < 0
theorem ddT_str : ∀ (A : List T) (p : Option T), (∀ t ∈ A, Rt t) → Srt A → (∀ q, p = some q → Rt q ∧ ∀ t ∈ A, cmpT q t ≤ 0) → Stc (ddT p A) ∧ (∀ t ∈ ddT p A, ∀ q, p = some q → cmpT q t < 0) ∧ ∀ t ∈ A, t ∈ ddT p A ∨ p = some t
  | [], p, _, _, _ => ⟨List.Pairwise.nil, fun t h => by simp [ddT] at h, fun t h => by cases h⟩
  | y :: r, p, hr, hs, hp => by
    have hs' := List.pairwise_cons.1 hs
    have hy : Rt y := hr y (by simp)
    have hr' : ∀ t ∈ r, Rt t := fun t ht => hr t (by simp [ht])
    obtain ⟨h1, h2, h3⟩ := ddT_str r (some y) hr' hs'.2 fun q e => by injection e with e; subst e; exact ⟨hy, hs'.1⟩
    rw [ddT]
    by_cases hc : some y = p
    · rw [if_pos hc]
      refine ⟨h1, fun t ht q e => h2 t ht q (hc.trans e), fun t ht => ?_⟩
      rcases List.mem_cons.1 ht with rfl | ht
      · exact .inr hc.symm
      · rcases h3 t ht with h | h
        · exact .inl h
        · exact .inr (hc.symm.trans h)
    · rw [if_neg hc]
      refine ⟨List.pairwise_cons.2 ⟨fun t ht => h2 t ht y rfl, h1⟩, fun t ht q e => ?_, fun t ht => ?_⟩
      · obtain ⟨hq, hq2⟩ := hp q e
        have e1 : cmpT q y ≤ 0 := hq2 y (by simp)
        have e2 : cmpT q y ≠ 0 := fun e3 => hc (by rw [e, cmp_zero q hq y hy e3])
        rcases List.mem_cons.1 ht with rfl | ht
        · omega
        · have e3 := h2 t ht y rfl
          have ht' : Rt t := hr' t ((ddT_sub _ _).subset ht)
          have k := cmp_tr q hq y t hy ht'
          have k1 := k.1 e1 (by omega)
          by_cases k2 : cmpT q t = 0
          · have := (k.2.1 e1 (by omega) k2).1; omega
          · omega
      · rcases List.mem_cons.1 ht with rfl | ht
        · exact .inl (by simp)
        · rcases h3 t ht with h | h
          · exact .inl (by simp [h])
          · injection h with h; exact .inl (by simp [h])
theorem ddT_id : ∀ (xs : List T) (p : Option T), (∀ t ∈ xs, Rt t) → Stc xs → (∀ q, p = some q → ∀ t ∈ xs, t ≠ q) → ddT p xs = xs
  | [], _, _, _, _ => rfl
  | y :: r, p, hr, hs, hp => by
    have hs' := List.pairwise_cons.1 hs
    rw [ddT, if_neg (fun e => hp y e.symm y (by simp) rfl), ddT_id r (some y) (fun t ht => hr t (by simp [ht])) hs'.2]
    intro q e t ht h
    injection e with e
    subst e; subst h
    have := hs'.1 t ht
    rw [cmp_self t (hr t (by simp))] at this
    omega
theorem Stc.srt {xs : List T} (h : Stc xs) : Srt xs := List.Pairwise.imp (fun h => by omega) h
theorem sortF_id {xs : List T} (h : ∀ t ∈ xs, okT t = true) (hs : Srt xs) : sortF xs [] = xs :=
  (sortF_eq (by rw [List.filter_eq_self.2 h]) hs).symm
/-- What the law on sorting wants. -/
theorem sorted_law {ts A B : List T} (h : ∀ t ∈ ts, okT t = true) (hA : A = sortF ts []) (hB : B = ddT none A) : Srt A ∧ Stc B ∧ (∀ t ∈ ts, t ∈ A ∧ t ∈ B) ∧ A.length = ts.length ∧ B.length ≤ A.length ∧ (∀ t ∈ A, okT t = true) ∧ (∀ t ∈ B, okT t = true) ∧ sortF A [] = A ∧ ddT none (sortF B []) = B ∧ (∀ t ∈ A, t ∈ ts) ∧ ∀ t ∈ B, t ∈ ts := by
  have hsp := sortF_spec ts [] (by simp) (by simp [Srt])
  rw [List.nil_append, List.filter_eq_self.2 h] at hsp
  rw [← hA] at hsp
  obtain ⟨h1, h2⟩ := hsp
  have hAm : ∀ t ∈ A, t ∈ ts := fun t ht => h2.mem_iff.1 ht
  have hAo : ∀ t ∈ A, okT t = true := fun t ht => h t (hAm t ht)
  have hAr : ∀ t ∈ A, Rt t := fun t ht => ⟨1, okT_right (hAo t ht)⟩
  obtain ⟨k1, k2, k3⟩ := ddT_str A none hAr h1 fun q e => by cases e
  rw [← hB] at k1 k2 k3
  have hBs : B.Sublist A := hB ▸ ddT_sub none A
  have hBo : ∀ t ∈ B, okT t = true := fun t ht => hAo t (hBs.subset ht)
  have hBr : ∀ t ∈ B, Rt t := fun t ht => hAr t (hBs.subset ht)
  refine ⟨h1, k1, fun t ht => ⟨h2.mem_iff.2 ht, (k3 t (h2.mem_iff.2 ht)).resolve_right (by simp)⟩, h2.length_eq, hBs.length_le, hAo, hBo, sortF_id hAo h1, ?_, hAm, fun t ht => hAm t (hBs.subset ht)⟩
  rw [sortF_id hBo k1.srt]
  exact ddT_id B none hBr k1 fun q e => by cases e
theorem pw_get {R : T → T → Prop} {xs : List T} (h : xs.Pairwise R) {i : Nat} {a b : T} (h0 : 1 ≤ i) (ha : xs[i - 1]? = some a) (hb : xs[i]? = some b) : R a b := by
  have hb' := lt_of_get hb
  have := List.pairwise_iff_getElem.1 h (i - 1) i (by omega) hb' (by omega)
  rw [List.getElem?_eq_getElem (by omega)] at ha hb
  injection ha with ha; injection hb with hb
  rw [← ha, ← hb]; exact this
end Go.Eng

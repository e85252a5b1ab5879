/- The engine and the contracts of the functions that the claim reaches (texts packed, part 3). -/
import Derived.Test.YtjgliechbnommaaGreatDoorQb
set_option linter.unusedVariables false
set_option linter.unusedSimpArgs false
namespace Go.Eng
mutual
inductive Vx (r : Nat → Option Nat) : V → V → Prop
 | any {v : V} : Vx r v .any
 | d {x : D} : Vx r (.d x) (.d x)
 | agg {fs : List Lay} {vs vs' : List V} : VxL r vs vs' → Vx r (.agg fs vs) (.agg fs vs')
 | ref {l : Lay} {i j off m : Nat} : r j = some i → Vx r (.ref l i off m) (.ref l j off m)
 | ptr {l : Lay} {i j k : Nat} {p : List Nat} : r j = some i → Vx r (.ptr l i k p) (.ptr l j k p)
 | fn {k : FuncId} {vs vs' : List V} : VxL r vs vs' → Vx r (.fn k vs) (.fn k vs')
 | emp : Vx r .emp .emp
inductive VxL (r : Nat → Option Nat) : List V → List V → Prop
 | nil : VxL r [] []
 | cons {v v' : V} {vs vs' : List V} : Vx r v v' → VxL r vs vs' → VxL r (v :: vs) (v' :: vs')
end
theorem VxL_length {r : Nat → Option Nat} : ∀ {vs vs' : List V}, VxL r vs vs' → vs.length = vs'.length
 | _, _, .nil => rfl
 | _, _, .cons _ h => by simp [VxL_length h]
theorem VxL_d {r : Nat → Option Nat} : ∀ xs : List D, VxL r (xs.map V.d) (xs.map V.d)
 | [] => .nil
 | _ :: xs => .cons .d (VxL_d xs)
mutual
theorem Vx_sound {r : Nat → Option Nat} {β β2 : Beta} {S : Nat → Prop} {w : World} (h2 : ∀ j i, r j = some i → β2 j = β i) : ∀ {v v' : V}, Vx r v v' → ∀ cs, VC β S w v cs → VC β2 S w v' cs
 | v, _, .any, cs, h => by
   simp only [VC]
   exact VC_scalar v cs h
 | _, _, .d, cs, h => by simpa only [VC] using h
 | _, _, .agg k, cs, h => by
   simp only [VC] at h ⊢
   exact VxL_sound h2 k _ cs h
 | _, _, .ref (j := j) k, cs, h => by
   simp only [VC] at h ⊢
   rw [h2 j _ k]; exact h
 | _, _, .ptr (j := j) k, cs, h => by
   simp only [VC] at h ⊢
   rw [h2 j _ k]; exact h
 | _, _, .fn k, cs, h => by
   simp only [VC] at h ⊢
   obtain ⟨xs, e1, e2⟩ := h
   exact ⟨xs, e1, VxL_length k ▸ VxL_sound h2 k _ xs e2⟩
 | _, _, .emp, cs, h => by simpa only [VC] using h
theorem VxL_sound {r : Nat → Option Nat} {β β2 : Beta} {S : Nat → Prop} {w : World} (h2 : ∀ j i, r j = some i → β2 j = β i) : ∀ {vs vs' : List V}, VxL r vs vs' → ∀ fs cs, VCs β S w fs vs cs → VCs β2 S w fs vs' cs
 | _, _, .nil, fs, cs, h => by simpa only [VCs] using h
 | _, _, .cons k1 k2, fs, cs, h => by
   simp only [VCs] at h ⊢
   obtain ⟨f, fr, c1, c2, e1, e2, e3, e4, e5⟩ := h
   exact ⟨f, fr, c1, c2, e1, e2, e3, Vx_sound h2 k1 c1 e4, VxL_sound h2 k2 fr c2 e5⟩
end
theorem Vx_isAgg {r : Nat → Option Nat} {v v' : V} (h : Vx r v v') (hn : v' ≠ .any) : v.isAgg = v'.isAgg := by
 cases h <;> first | rfl | exact absurd rfl hn
theorem Vx_VR0 {r : Nat → Option Nat} {β β2 : Beta} {S : Nat → Prop} {w : World} (h2 : ∀ j i, r j = some i → β2 j = β i) {v v' : V} (h : Vx r v v') {x : Value} (hv : VR0 β S w v x) : VR0 β2 S w v' x := by
 by_cases hn : v' = .any
 ·exact .inl hn
 ·have hva : v ≠ .any := by
   rintro rfl
   cases h
   exact hn rfl
  rcases hv with hv | ⟨h3, h4⟩
  ·exact absurd hv hva
  ·exact .inr ⟨Vx_sound h2 h _ h3, by rw [← Vx_isAgg h hn, h4]⟩
theorem VxL_VR0 {r : Nat → Option Nat} {β β2 : Beta} {S : Nat → Prop} {w : World} (h2 : ∀ j i, r j = some i → β2 j = β i) : ∀ {vs vs' : List V} {xs : List Value}, VxL r vs vs' → All2 (VR0 β S w) vs xs → All2 (VR0 β2 S w) vs' xs
 | _, _, _, .nil, .nil => .nil
 | _, _, _, .cons k1 k2, .cons h1 h3 => .cons (Vx_VR0 h2 k1 h1) (VxL_VR0 h2 k2 h3)
abbrev someL (Ls : List Box) : Hp := Ls.map some
theorem someL_get {Ls : List Box} {i : Nat} {b : Box} (h : (someL Ls)[i]? = some (some b)) : Ls[i]? = some b := by
 simp only [someL, List.getElem?_map, Option.map_eq_some_iff] at h
 obtain ⟨y, h1, h2⟩ := h
 injection h2 with h2
 rw [← h2]; exact h1
theorem someL_mk {Ls : List Box} {i : Nat} {b : Box} (h : Ls[i]? = some b) : (someL Ls)[i]? = some (some b) := by
 simp only [someL, List.getElem?_map, h, Option.map_some]
def BxI (L : Hp) (r : Nat → Option Nat) : Nat → List Box → Prop
 | _, [] => True
 | j, b2 :: rest => (∃ i b1, r j = some i ∧ L[i]? = some (some b1) ∧ b1.ty.t = b2.ty.t ∧ b2.ty.ad = none ∧ b1.l = b2.l ∧ VxL r b1.es b2.es) ∧ BxI L r (j + 1) rest
theorem BxI_nil {L : Hp} {r : Nat → Option Nat} {j : Nat} : BxI L r j [] := trivial
theorem BxI_cons {L : Hp} {r : Nat → Option Nat} {j i : Nat} {b1 b2 : Box} {rest : List Box} (h1 : r j = some i) (h2 : L[i]? = some (some b1)) (h3 : b1.ty.t = b2.ty.t) (h4 : b2.ty.ad = none) (h5 : b1.l = b2.l) (h6 : VxL r b1.es b2.es) (h : BxI L r (j + 1) rest) : BxI L r j (b2 :: rest) :=
 ⟨⟨i, b1, h1, h2, h3, h4, h5, h6⟩, h⟩
theorem BxI_get {L : Hp} {r : Nat → Option Nat} : ∀ (L2 : List Box) (j0 : Nat), BxI L r j0 L2 → ∀ j b2, L2[j]? = some b2 → ∃ i b1, r (j0 + j) = some i ∧ L[i]? = some (some b1) ∧ b1.ty.t = b2.ty.t ∧ b2.ty.ad = none ∧ b1.l = b2.l ∧ VxL r b1.es b2.es
 | [], j0, _, j, b2, h => by simp at h
 | b :: rest, j0, k, j, b2, h => by
   cases j with
   | zero => simp at h; subst h; exact k.1
   | succ j =>
     simp at h
     have := BxI_get rest (j0 + 1) k.2 j b2 h
     rw [show j0 + (j + 1) = j0 + 1 + j by omega]; exact this
def viewB (r : Nat → Option Nat) (β : Beta) : Beta := fun j => match r j with | some i => β i | none => none
theorem viewB_some {r : Nat → Option Nat} {β : Beta} {j i : Nat} (h : r j = some i) : viewB r β j = β i := by simp only [viewB, h]
theorem HeapR.view {β : Beta} {S : Nat → Prop} {w : World} {L : Hp} (h : HeapR β S w L) {r : Nat → Option Nat} {Ls : List Box} (hB : BxI L r 0 Ls) (hnd : ∀ j j' i, r j = some i → r j' = some i → j = j') (hun : ∀ j, Ls.length ≤ j → r j = none) : HeapR (viewB r β) S w (someL Ls) := by
 have h2 : ∀ j i, r j = some i → viewB r β j = β i := fun j i e => viewB_some e
 have old : ∀ j b2, (someL Ls)[j]? = some (some b2) → ∃ i b1, r j = some i ∧ L[i]? = some (some b1) ∧ b1.ty.t = b2.ty.t ∧ b2.ty.ad = none ∧ b1.l = b2.l ∧ VxL r b1.es b2.es := fun j b2 hj => by
  have := BxI_get Ls 0 hB j b2 (someL_get hj)
  simpa using this
 refine ⟨?_, ?_, ?_, h.fz, ?_, ?_⟩
 ·intro j b2 hj
  obtain ⟨i, b1, k1, k2, k3, _, k4, k5⟩ := old j b2 hj
  have hl := VxL_length k5
  obtain ⟨q0, q⟩ := h.bx i b1 k2
  refine ⟨by omega, ?_⟩
  rcases q with ⟨q1, q2⟩ | ⟨b, Cp, cur, ds, q1, q2, q3, q4, q5, q6⟩
  ·refine .inl ⟨by rw [h2 j i k1]; exact q1, ?_⟩
   rw [q2] at hl
   exact List.eq_nil_of_length_eq_zero hl.symm
  ·refine .inr ⟨b, Cp, cur, ds, by rw [h2 j i k1]; exact q1, by rw [← k3]; exact q2, by rw [← k4]; exact q3, by rw [← hl]; exact q4, ?_, q6⟩
   rw [← hl, ← k4]
   exact VxL_sound h2 k5 _ ds q5
 ·intro j j' b bx bx' c c' hj hj' hbj hbj'
  obtain ⟨i, b1, k1, k2, _⟩ := old j bx hj
  obtain ⟨i', b1', k1', k2', _⟩ := old j' bx' hj'
  rw [h2 j i k1] at hbj
  rw [h2 j' i' k1'] at hbj'
  have := h.inj i i' b b1 b1' c c' k2 k2' hbj hbj'
  subst this
  exact hnd j j' i k1 k1'
 ·intro j bx b c hj hbj
  obtain ⟨i, b1, k1, k2, _⟩ := old j bx hj
  rw [h2 j i k1] at hbj
  exact h.own i b1 b c k2 hbj
 ·intro j hj
  simp only [viewB, hun j (by simpa using hj)]
 ·intro j bx q hj hq
  obtain ⟨i, b1, k1, k2, _, k3, _⟩ := old j bx hj
  rw [k3] at hq; cases hq
def inBk (Lin : List Box) (β : Beta) (b : Nat) : Prop := ∃ j bx c, Lin[j]? = some bx ∧ β j = some (some (b, c))
def ResH (ow : Option (Lay × D)) (res : List V) (β : Beta) (S : Nat → Prop) (w : World) (ys : List Value) (M : List Nat) : Prop :=
 match ow with
 | none => All2 (VR0 β S w) res ys ∧ M = []
 | some (l, r) => ∃ y yr, ys = y :: yr ∧ Tr w r y.cells.toList M ∧ r.isAgg = isAggV y ∧ All2 (VR0 β S w) res yr
def HCall (P : Program) (k : FuncId) (args : List V) (Lin : List Box) (stay : Nat) (ow : Option (Lay × D)) (res : List V) (Lout : List Box) : Prop :=
 ∀ (w : World) (S : Nat → Prop) (β : Beta) (xs : List Value), Tab P S w → HeapR β S w (someL Lin) → All2 (VR0 β S w) args xs →
  Calls P k xs.toArray w fun en w' => ∃ ys β' S' M, en = .returned (tupV ys) ∧ ResH ow res β' S' w' ys M ∧ HeapR β' S' w' (someL Lout) ∧ (∀ j, j < stay → β' j = β j) ∧
   (∀ i bx b c, Lout[i]? = some bx → β' i = some (some (b, c)) → inBk Lin β b ∨ w.heap.size ≤ b) ∧ (∀ b ∈ M, w.heap.size ≤ b ∧ ¬ S' b ∧ ∀ i bx c, Lout[i]? = some bx → β' i ≠ some (some (b, c))) ∧
   (∀ b, S b → S' b) ∧ (∀ b, S' b → S b ∨ w.heap.size ≤ b ∨ inBk Lin β b) ∧ Pres (inBk Lin β) w w'
section
variable {P : Program} {C : Cx} {n : Nat} {f : Fr} {L : Hp} {Q : AQ} {ops : Array Oper} {rest : List Oper} {dst : Option Tmp} {ty : TypeId} {pos : String} {after : Array Edge} {a : Act} {w w' : World} {β : Beta} {S S' : Nat → Prop}
def outR (q : Nat) : Nat → Option Nat := fun J => bif Nat.ble q J then some (J - q) else none
theorem outR_some {q J j : Nat} (h : outR q J = some j) : J = q + j := by
 unfold outR at h
 cases e : Nat.ble q J with
 | false => rw [e] at h; cases h
 | true =>
   rw [e] at h
   have := Nat.le_of_ble_eq_true e
   injection h with h
   omega
def BxO (q : Nat) (L : Hp) (r : Nat → Option Nat) (stay : Nat) : Nat → List Box → List Box → Prop
 | _, [], [] => True
 | j, b1 :: r1, b2 :: r2 => (b1.ty.t = b2.ty.t ∧ b1.l = b2.l ∧ VxL (outR q) b1.es b2.es ∧ (b2.ty.ad = none ∨ (j < stay ∧ ∃ i bx, r j = some i ∧ L[i]? = some (some bx) ∧ b2.ty.ad = bx.ty.ad))) ∧ BxO q L r stay (j + 1) r1 r2
 | _, _, _ => False
theorem BxO_nil {q : Nat} {L : Hp} {r : Nat → Option Nat} {stay j : Nat} : BxO q L r stay j [] [] := trivial
theorem BxO_cons {q : Nat} {L : Hp} {r : Nat → Option Nat} {stay j : Nat} {b1 b2 : Box} {r1 r2 : List Box} (h1 : b1.ty.t = b2.ty.t) (h2 : b1.l = b2.l) (h3 : VxL (outR q) b1.es b2.es) (h4 : b2.ty.ad = none) (h : BxO q L r stay (j + 1) r1 r2) : BxO q L r stay j (b1 :: r1) (b2 :: r2) := ⟨⟨h1, h2, h3, .inl h4⟩, h⟩
theorem BxO_stay {q : Nat} {L : Hp} {r : Nat → Option Nat} {stay j i : Nat} {b1 b2 bx : Box} {r1 r2 : List Box} (h1 : b1.ty.t = b2.ty.t) (h2 : b1.l = b2.l) (h3 : VxL (outR q) b1.es b2.es) (h4 : j < stay) (h5 : r j = some i) (h6 : L[i]? = some (some bx)) (h7 : b2.ty.ad = bx.ty.ad) (h : BxO q L r stay (j + 1) r1 r2) : BxO q L r stay j (b1 :: r1) (b2 :: r2) := ⟨⟨h1, h2, h3, .inr ⟨h4, i, bx, h5, h6, h7⟩⟩, h⟩
theorem BxO_get {q : Nat} {L : Hp} {r : Nat → Option Nat} {stay : Nat} : ∀ (r1 r2 : List Box) (j0 : Nat), BxO q L r stay j0 r1 r2 → r1.length = r2.length ∧ ∀ j b2, r2[j]? = some b2 → ∃ b1, r1[j]? = some b1 ∧ b1.ty.t = b2.ty.t ∧ b1.l = b2.l ∧ VxL (outR q) b1.es b2.es ∧ (b2.ty.ad = none ∨ (j0 + j < stay ∧ ∃ i bx, r (j0 + j) = some i ∧ L[i]? = some (some bx) ∧ b2.ty.ad = bx.ty.ad))
 | [], [], _, _ => ⟨rfl, fun j b2 h => by simp at h⟩
 | b1 :: r1, b2 :: r2, j0, h => by
   obtain ⟨h1, h2⟩ := BxO_get r1 r2 (j0 + 1) h.2
   refine ⟨by simp [h1], fun j b h3 => ?_⟩
   cases j with
   | zero => simp at h3; subst h3; exact ⟨b1, rfl, h.1⟩
   | succ j =>
     simp at h3
     obtain ⟨b', k1, k2⟩ := h2 j b h3
     rw [show j0 + 1 + j = j0 + (j + 1) by omega] at k2
     exact ⟨b', by simpa using k1, k2⟩
 | [], _ :: _, _, h => h.elim
 | _ :: _, [], _, h => h.elim
def afterB (q : Nat) (β β' : Beta) : Beta := fun J => if J < q then β J else β' (J - q)
def retH : List V → V
 | [v] => v
 | vs => .tup vs
theorem retH_VR {vs : List V} {ys : List Value} (h : All2 (VR0 β S w) vs ys) : VR β S w (retH vs) (tupV ys) := by
 match vs, ys, h with
 | [], _, .nil => exact ⟨[], rfl, .nil⟩
 | [v], _, .cons h1 .nil => exact VR_of_VR0 h1
 | v :: v' :: r, _, .cons h1 (.cons h2 h3) => exact ⟨_, rfl, .cons h1 (.cons h2 h3)⟩
theorem Rel.hcall (hr : Rel C n f L a w β S) {src : List Nat} {Lin Lout Lout' : List Box} {stay : Nat} {β' : Beta} (hB : BxI L (srcOf (src.map some)) 0 Lin) (hln : src.length = Lin.length) (hnd : nodupS (src.map some) = true)
 (hO : BxO L.length L (srcOf (src.map some)) stay 0 Lout Lout') (hst : stay ≤ Lin.length) (hp' : HeapR β' S' w' (someL Lout)) (hs : ∀ j, j < stay → β' j = viewB (srcOf (src.map some)) β j)
 (hnew : ∀ i bx b c, Lout[i]? = some bx → β' i = some (some (b, c)) → inBk Lin (viewB (srcOf (src.map some)) β) b ∨ w.heap.size ≤ b) (su : ∀ b, S b → S' b) (hS : ∀ b, S' b → S b ∨ w.heap.size ≤ b ∨ inBk Lin (viewB (srcOf (src.map some)) β) b) (hp : Pres (inBk Lin (viewB (srcOf (src.map some)) β)) w w') :
 Rel C n f (dropL src L ++ someL Lout') a w' (afterB L.length β β') S' ∧ ∀ v v' y, Vx (outR L.length) v v' → VR0 β' S' w' v y → VR0 (afterB L.length β β') S' w' v' y := by
 have hsome : ∀ j i, srcOf (src.map some) j = some i → src[j]? = some i := fun j i h => by
  unfold srcOf at h
  rw [List.getElem?_map] at h
  cases e : src[j]? with
  | none => rw [e] at h; simp at h
  | some k => rw [e] at h; simp at h; rw [h]
 have hin : ∀ b, inBk Lin (viewB (srcOf (src.map some)) β) b → ∃ i bx c, i ∈ src ∧ L[i]? = some (some bx) ∧ β i = some (some (b, c)) := fun b ⟨j, bx, c, h1, h2⟩ => by
  obtain ⟨i, b1, k1, k2, _⟩ := BxI_get Lin 0 hB j bx h1
  simp only [Nat.zero_add] at k1
  rw [viewB_some k1] at h2
  exact ⟨i, b1, c, List.mem_of_getElem? (hsome j i k1), k2, h2⟩
 have hβ : ∀ i, i < L.length → afterB L.length β β' i = β i := fun i hi => by simp only [afterB, if_pos hi]
 have hβ2 : ∀ j, afterB L.length β β' (L.length + j) = β' j := fun j => by
  simp only [afterB]
  rw [if_neg (by omega)]
  congr 1; omega
 have lat : Later β S w (afterB L.length β β') S' w' := by
  refine ⟨fun i o hi => ?_, su, fun b hb => hp.block b (hr.hp.fz b hb) fun h => ?_⟩
  ·by_cases h : i < L.length
   ·rw [hβ i h]; exact hi
   ·rw [hr.hp.un i (by omega)] at hi; cases hi
  ·obtain ⟨i, bx, c, _, h2, h3⟩ := hin b h
   exact hr.hp.own i bx b c h2 h3 hb
 have hx2 : ∀ J j, outR L.length J = some j → afterB L.length β β' J = β' j := fun J j h => by
  rw [outR_some h]; exact hβ2 j
 have hdl : (dropL src L).length = L.length := dropL_length src L
 obtain ⟨hol, hog⟩ := BxO_get Lout Lout' 0 hO
 have cases_ : ∀ J bx, (dropL src L ++ someL Lout')[J]? = some (some bx) → (J < L.length ∧ J ∉ src ∧ L[J]? = some (some bx)) ∨ (∃ j b1, J = L.length + j ∧ Lout'[j]? = some bx ∧ Lout[j]? = some b1 ∧ b1.ty.t = bx.ty.t ∧ b1.l = bx.l ∧ VxL (outR L.length) b1.es bx.es ∧ (bx.ty.ad = none ∨ (j < stay ∧ ∃ i b, srcOf (src.map some) j = some i ∧ L[i]? = some (some b) ∧ bx.ty.ad = b.ty.ad))) := fun J bx h => by
  by_cases hJ : J < L.length
  ·rw [List.getElem?_append_left (by omega)] at h
   obtain ⟨h1, h2⟩ := dropL_get src L J bx h
   exact .inl ⟨hJ, h2, h1⟩
  ·rw [List.getElem?_append_right (by omega), hdl] at h
   have h1 := someL_get h
   obtain ⟨b1, k1, k2⟩ := hog (J - L.length) bx h1
   simp only [Nat.zero_add] at k2
   exact .inr ⟨J - L.length, b1, by omega, h1, k1, k2⟩
 have getO : ∀ (j : Nat) (b1 : Box), Lout[j]? = some b1 → (someL Lout)[j]? = some (some b1) := fun j b1 h => someL_mk h
 refine ⟨hr.later lat ⟨?_, ?_, ?_, hp'.fz, ?_, ?_⟩ ?_ ?_ ?_, fun v v' y h hv => Vx_VR0 hx2 h hv⟩
 ·intro J bx h
  rcases cases_ J bx h with ⟨h1, h2, h3⟩ | ⟨j, b1, rfl, h1, h2, h3, h4, h5, _⟩
  ·refine BoxR_later lat (fun b c hb => hp.block b ((hr.hp.bx J bx h3).lt hb) fun hi => ?_) (hr.hp.bx J bx h3)
   obtain ⟨i, b', c', k1, k2, k3⟩ := hin b hi
   have := hr.hp.inj J i b bx b' c c' h3 k2 hb k3
   subst this; exact h2 k1
  ·have hl := VxL_length h5
   obtain ⟨q0, q⟩ := hp'.bx j b1 (getO j b1 h2)
   refine ⟨by omega, ?_⟩
   rcases q with ⟨q1, q2⟩ | ⟨b, Cp, cur, ds, q1, q2, q3, q4, q5, q6⟩
   ·refine .inl ⟨by rw [hβ2 j]; exact q1, ?_⟩
    rw [q2] at hl
    exact List.eq_nil_of_length_eq_zero hl.symm
   ·refine .inr ⟨b, Cp, cur, ds, by rw [hβ2 j]; exact q1, by rw [← h3]; exact q2, by rw [← h4]; exact q3, by rw [← hl]; exact q4, ?_, q6⟩
    rw [← hl, ← h4]
    exact VxL_sound hx2 h5 _ ds q5
 ·intro J J' b bx bx' c c' h h' hb hb'
  have cross : ∀ J bx c, J < L.length → J ∉ src → L[J]? = some (some bx) → β J = some (some (b, c)) → ∀ j b1 c', Lout[j]? = some b1 → β' j = some (some (b, c')) → False := fun J bx c h1 h2 h3 h4 j b1 c' k1 k2 => by
   rcases hnew j b1 b c' k1 k2 with k3 | k3
   ·obtain ⟨i, b', c2, m1, m2, m3⟩ := hin b k3
    have := hr.hp.inj J i b bx b' c c2 h3 m2 h4 m3
    subst this; exact h2 m1
   ·have := (hr.hp.bx J bx h3).lt h4; omega
  rcases cases_ J bx h with ⟨h1, h2, h3⟩ | ⟨j, b1, rfl, h1, h2, _⟩ <;> rcases cases_ J' bx' h' with ⟨k1, k2, k3⟩ | ⟨j', b1', rfl, k1, k2, _⟩
  ·rw [hβ _ h1] at hb; rw [hβ _ k1] at hb'
   exact hr.hp.inj J J' b bx bx' c c' h3 k3 hb hb'
  ·rw [hβ _ h1] at hb; rw [hβ2] at hb'
   exact (cross J bx c h1 h2 h3 hb j' b1' c' k2 hb').elim
  ·rw [hβ _ k1] at hb'; rw [hβ2] at hb
   exact (cross J' bx' c' k1 k2 k3 hb' j b1 c h2 hb).elim
  ·rw [hβ2] at hb hb'
   rw [hp'.inj j j' b b1 b1' c c' (getO j b1 h2) (getO j' b1' k2) hb hb']
 ·intro J bx b c h hb hs'
  rcases cases_ J bx h with ⟨h1, h2, h3⟩ | ⟨j, b1, rfl, h1, h2, _⟩
  ·rw [hβ _ h1] at hb
   rcases hS b hs' with h4 | h4 | h4
   ·exact hr.hp.own J bx b c h3 hb h4
   ·have := (hr.hp.bx J bx h3).lt hb; omega
   ·obtain ⟨i, b', c', k1, k2, k3⟩ := hin b h4
    have := hr.hp.inj J i b bx b' c c' h3 k2 hb k3
    subst this; exact h2 k1
  ·rw [hβ2] at hb
   exact hp'.own j b1 b c (getO j b1 h2) hb hs'
 ·intro J hJ
  rw [List.length_append, hdl] at hJ
  simp only [afterB]
  rw [if_neg (by omega)]
  exact hp'.un _ (by simp only [someL, List.length_map] at hJ ⊢; omega)
 ·intro J bx q h hq
  rcases cases_ J bx h with ⟨h1, h2, h3⟩ | ⟨j, b1, rfl, h1, h2, _, _, _, h4⟩
  ·rw [hβ _ h1]; exact hr.hp.ad J bx q h3 hq
  ·rcases h4 with h4 | ⟨h4, i, b, h5, h6, h7⟩
   ·rw [h4] at hq; cases hq
   ·rw [hβ2, hs j h4, viewB_some h5]
    exact hr.hp.ad i b q h6 (by rw [← h7]; exact hq)
 ·intro J bx b c h hb
  rcases cases_ J bx h with ⟨h1, h2, h3⟩ | ⟨j, b1, rfl, h1, h2, _⟩
  ·rw [hβ _ h1] at hb
   exact hr.own J bx b c h3 hb
  ·rw [hβ2] at hb
   rcases hnew j b1 b c h2 hb with h3 | h3
   ·obtain ⟨i, b', c', k1, k2, k3⟩ := hin b h3
    exact hr.own i b' b c' k2 k3
   ·have := hr.pres.size; exact .inr (by omega)
 ·intro b hb
  rcases hS b hb with h1 | h1 | h1
  ·exact hr.fz b h1
  ·have := hr.pres.size; exact .inr (.inl (by omega))
  ·obtain ⟨i, b', c', k1, k2, k3⟩ := hin b h1
   exact .inr (hr.own i b' b c' k2 k3).symm
 ·refine ⟨hp.os.trans hr.pres.os, hp.tape.trans hr.pres.tape, hp.output.trans hr.pres.output, by have := hr.pres.size; have := hp.size; omega, fun b hb hd => ?_⟩
  have hsz := hr.pres.size
  refine (hp.block b (by omega) fun h => ?_).trans (hr.pres.block b hb hd)
  obtain ⟨i, b', c', k1, k2, k3⟩ := hin b h
  rcases hr.own i b' b c' k2 k3 with h1 | h1
  ·exact hd h1
  ·omega
theorem srcOf_nodup {src : List Nat} (hnd : nodupS (src.map some) = true) : ∀ j j' i, srcOf (src.map some) j = some i → srcOf (src.map some) j' = some i → j = j' := nodupS_inj _ hnd
theorem srcOf_un {src : List Nat} {m : Nat} (h : src.length = m) : ∀ j, m ≤ j → srcOf (src.map some) j = none := fun j hj => by
 unfold srcOf
 rw [List.getElem?_eq_none (by simp; omega)]
theorem args_VR0 (hr : Rel C n f L a w β S) : ∀ (xs : List Operand) (vs : List V) {r : Nat → Option Nat}, VxL r (xs.map (ev f)) vs → ∀ {β2 : Beta}, (∀ j i, r j = some i → β2 j = β i) → All2 (VR0 β2 S w) vs (xs.map a.eval)
 | [], _, r, .nil, _, _ => .nil
 | x :: xs, _, r, .cons (v' := v') h1 h2, β2, hb => by
   refine .cons ?_ (args_VR0 hr xs _ h2 hb)
   by_cases hn : v' = .any
   ·exact .inl hn
   ·have hk : (ev f x).known = true := by
     generalize ev f x = v at h1
     cases h1 <;> first | rfl | exact absurd rfl hn
    exact Vx_VR0 hb h1 (known_VR0 (rel_ev hr x) hk)
def frV (args : List V) : Fr := fun i => match args[i]? with | some v => v | none => .any
def inL (o : Nat → Option (Nat × Nat)) (stay : Nat) : Nat → List Box → Hp
 | _, [] => []
 | j, b :: r => some ⟨⟨b.ty.t, bif Nat.blt j stay then some (o j) else none⟩, b.l, b.es⟩ :: inL o stay (j + 1) r
theorem inL_get {o : Nat → Option (Nat × Nat)} {stay : Nat} : ∀ (Ls : List Box) (j0 j : Nat) (b : Box), (inL o stay j0 Ls)[j]? = some (some b) → ∃ b0, Ls[j]? = some b0 ∧ b = ⟨⟨b0.ty.t, bif Nat.blt (j0 + j) stay then some (o (j0 + j)) else none⟩, b0.l, b0.es⟩
 | [], j0, j, b, h => by simp [inL] at h
 | b0 :: r, j0, 0, b, h => by simp [inL] at h; exact ⟨b0, rfl, by rw [← h]; rfl⟩
 | b0 :: r, j0, j + 1, b, h => by
   simp only [inL, List.getElem?_cons_succ] at h
   obtain ⟨b1, h1, h2⟩ := inL_get r (j0 + 1) j b h
   rw [show j0 + 1 + j = j0 + (j + 1) by omega] at h2
   exact ⟨b1, by simpa using h1, h2⟩
theorem inL_length {o : Nat → Option (Nat × Nat)} {stay : Nat} : ∀ (Ls : List Box) (j0 : Nat), (inL o stay j0 Ls).length = Ls.length
 | [], _ => rfl
 | _ :: r, j0 => by simp [inL, inL_length r]
def retHP (fn : Func) (P : Program) (C0 : Cx) (o : Nat → Option (Nat × Nat)) (stay : Nat) (ow : Option (Lay × D)) (res : List V) (Lout : List Box) (a : Act) (w' : World) : Prop :=
 a.defers = [] ∧ ∃ x, (results fn a.tmps).run P w' = .ok x w' ∧ ∃ ys β' S' M, x = tupV ys ∧ ResH ow res β' S' w' ys M ∧ HeapR β' S' w' (someL Lout) ∧ (∀ j, j < stay → β' j = some (o j)) ∧
  (∀ i bx b c, Lout[i]? = some bx → β' i = some (some (b, c)) → C0.Dm b ∨ C0.w0.heap.size ≤ b) ∧ (∀ b ∈ M, C0.w0.heap.size ≤ b ∧ ¬ S' b ∧ ∀ i bx c, Lout[i]? = some bx → β' i ≠ some (some (b, c))) ∧
  (∀ b, C0.S0 b → S' b) ∧ (∀ b, S' b → C0.S0 b ∨ C0.w0.heap.size ≤ b ∨ C0.Dm b) ∧ Pres C0.Dm C0.w0 w'
def retHQ (fn : Func) (P : Program) (C0 : Cx) (o : Nat → Option (Nat × Nat)) (stay : Nat) (ow : Option (Lay × D)) (res : List V) (Lout : List Box) : AQ := fun en a w => ends en = true ∧ retHP fn P C0 o stay ow res Lout a w
def BxF (L : Hp) (r : Nat → Option Nat) (o : Nat → Option (Nat × Nat)) (stay : Nat) : Nat → List Box → Prop
 | _, [] => True
 | j, b2 :: rest => (∃ i b1, r j = some i ∧ L[i]? = some (some b1) ∧ b1.ty.t = b2.ty.t ∧ b2.ty.ad = none ∧ b1.l = b2.l ∧ VxL r b1.es b2.es ∧ (b1.ty.ad = some (o j) ∨ stay ≤ j)) ∧ BxF L r o stay (j + 1) rest
theorem BxF_nil {L : Hp} {r : Nat → Option Nat} {o : Nat → Option (Nat × Nat)} {stay j : Nat} : BxF L r o stay j [] := trivial
theorem BxF_stay {L : Hp} {r : Nat → Option Nat} {o : Nat → Option (Nat × Nat)} {stay j i : Nat} {b1 b2 : Box} {rest : List Box} (h1 : r j = some i) (h2 : L[i]? = some (some b1)) (h3 : b1.ty.t = b2.ty.t) (h4 : b2.ty.ad = none) (h5 : b1.l = b2.l) (h6 : VxL r b1.es b2.es) (h7 : b1.ty.ad = some (o j)) (h : BxF L r o stay (j + 1) rest) : BxF L r o stay j (b2 :: rest) :=
 ⟨⟨i, b1, h1, h2, h3, h4, h5, h6, .inl h7⟩, h⟩
theorem BxF_cons {L : Hp} {r : Nat → Option Nat} {o : Nat → Option (Nat × Nat)} {stay j i : Nat} {b1 b2 : Box} {rest : List Box} (h1 : r j = some i) (h2 : L[i]? = some (some b1)) (h3 : b1.ty.t = b2.ty.t) (h4 : b2.ty.ad = none) (h5 : b1.l = b2.l) (h6 : VxL r b1.es b2.es) (h7 : stay ≤ j) (h : BxF L r o stay (j + 1) rest) : BxF L r o stay j (b2 :: rest) :=
 ⟨⟨i, b1, h1, h2, h3, h4, h5, h6, .inr h7⟩, h⟩
theorem BxF_I {L : Hp} {r : Nat → Option Nat} {o : Nat → Option (Nat × Nat)} {stay : Nat} : ∀ (Ls : List Box) (j : Nat), BxF L r o stay j Ls → BxI L r j Ls
 | [], _, _ => trivial
 | b :: rest, j, ⟨⟨i, b1, h1, h2, h3, h4, h5, h6, _⟩, h⟩ => ⟨⟨i, b1, h1, h2, h3, h4, h5, h6⟩, BxF_I rest (j + 1) h⟩
theorem BxF_ad {L : Hp} {r : Nat → Option Nat} {o : Nat → Option (Nat × Nat)} {stay : Nat} : ∀ (Ls : List Box) (j0 : Nat), BxF L r o stay j0 Ls → ∀ j, j < Ls.length → j0 + j < stay → ∃ i b1, r (j0 + j) = some i ∧ L[i]? = some (some b1) ∧ b1.ty.ad = some (o (j0 + j))
 | [], _, _, j, h, _ => by simp at h
 | b :: rest, j0, ⟨⟨i, b1, h1, h2, h3, h4, h5, h6, h7⟩, h⟩, j, hj, hs => by
   cases j with
   | zero => exact ⟨i, b1, h1, h2, h7.resolve_right (by omega)⟩
   | succ j =>
     have := BxF_ad rest (j0 + 1) h j (by simpa using hj) (by omega)
     rw [show j0 + 1 + j = j0 + (j + 1) by omega] at this
     exact this
theorem reth_core {C0 : Cx} {o : Nat → Option (Nat × Nat)} {stay : Nat} {Lout : List Box} (hx : CExt C0 C) (src : List Nat) (hln : src.length = Lout.length) (hnd : nodupS (src.map some) = true) (hB : BxF L (srcOf (src.map some)) o stay 0 Lout) (hst : stay ≤ Lout.length) (hr : Rel C n f L a w' β S) :
 HeapR (viewB (srcOf (src.map some)) β) S w' (someL Lout) ∧ (∀ j, j < stay → viewB (srcOf (src.map some)) β j = some (o j)) ∧ (∀ i bx b c, Lout[i]? = some bx → viewB (srcOf (src.map some)) β i = some (some (b, c)) → C0.Dm b ∨ C0.w0.heap.size ≤ b) ∧
 (∀ b, C0.S0 b → S b) ∧ (∀ b, S b → C0.S0 b ∨ C0.w0.heap.size ≤ b ∨ C0.Dm b) ∧ Pres C0.Dm C0.w0 w' := by
 have hr0 := hr.back hx
 refine ⟨hr.hp.view (BxF_I Lout 0 hB) (srcOf_nodup hnd) (srcOf_un hln), fun j hj => ?_, fun i bx b c h1 h2 => ?_, hr0.s0, hr0.fz, hr0.pres⟩
 ·obtain ⟨i, b1, k1, k2, k3⟩ := BxF_ad Lout 0 hB j (by omega) (by omega)
  simp only [Nat.zero_add] at k1 k3
  rw [viewB_some k1]
  exact hr.hp.ad i b1 _ k2 k3
 ·obtain ⟨m, b1, k1, k2, _⟩ := BxI_get Lout 0 (BxF_I Lout 0 hB) i bx h1
  simp only [Nat.zero_add] at k1
  rw [viewB_some k1] at h2
  exact hr0.own m b1 b c k2 h2
end
theorem HCall.data {P : Program} {k : FuncId} {args : List V} {Lin Lout : List Box} {stay : Nat} {l : Lay} {r : D} {res : List V} (h : HCall P k args Lin stay (some (l, r)) res Lout) : HCall P k args Lin stay none (.d r :: res) Lout := fun w S β xs hT hh ha =>
 (h w S β xs hT hh ha).mono fun en w' ⟨ys, β', S', M, h1, ⟨y, yr, h2, t1, t2, t3⟩, h4, h5, h6, h7, h8, h9, h10⟩ => by
   have hlt := Tr_lt _ _ _ t1
   have su : ∀ b, S' b → S' b ∨ b ∈ M := fun b hb => .inl hb
   have lat : Later β' S' w' β' (fun b => S' b ∨ b ∈ M) w' := ⟨fun _ _ h => h, su, fun _ _ => rfl⟩
   refine ⟨ys, β', fun b => S' b ∨ b ∈ M, [], h1, ⟨?_, rfl⟩, ⟨fun i b hb => BoxR_later lat (fun _ _ _ => rfl) (h4.bx i b hb), h4.inj, fun i bx b c hL hβ hs => ?_, fun b hb => ?_, h4.un, h4.ad⟩, h5, h6, by simp, fun b hb => .inl (h8 b hb), fun b hb => ?_, h10⟩
   ·subst h2
    refine .cons (VR0_of_RD ⟨Tr_DC _ _ _ (fun b hb => .inr hb) t1, t2⟩) ?_
    have key : ∀ {vs : List V} {zs : List Value}, All2 (VR0 β' S' w') vs zs → All2 (VR0 β' (fun b => S' b ∨ b ∈ M) w') vs zs := fun h => h.mono fun _ _ h => VR0_later lat h
    exact key t3
   ·rcases hs with hs | hs
    ·exact h4.own i bx b c hL hβ hs
    ·exact (h7 b hs).2.2 i bx c (someL_get hL) hβ
   ·rcases hb with hb | hb
    ·exact h4.fz b hb
    ·exact hlt b hb
   ·rcases hb with hb | hb
    ·exact h9 b hb
    ·exact .inr (.inl (h7 b hb).1)
end Go.Eng
set_option linter.unusedVariables false
set_option linter.unusedSimpArgs false
namespace Go.Eng
def invS : List Nat → Nat → Option Nat
 | [], _ => none
 | x :: r, i => bif Nat.beq x i then some 0 else (invS r i).map (· + 1)
def putL : List Nat → List Box → Hp → Hp
 | i :: is, b :: bs, L => (putL is bs L).set i (some b)
 | _, _, L => L
def BxP (ρ : Nat → Option Nat) (L : Hp) : List Nat → List Box → List Box → Prop
 | _, [], [] => True
 | i :: is, b1 :: r1, b2 :: r2 => (b1.ty.t = b2.ty.t ∧ b1.l = b2.l ∧ VxL ρ b1.es b2.es ∧ (b2.ty.ad = none ∨ ∃ bx, L[i]? = some (some bx) ∧ b2.ty.ad = bx.ty.ad)) ∧ BxP ρ L is r1 r2
 | _, _, _ => False
section
variable {P : Program} {C : Cx} {n : Nat} {f : Fr} {L : Hp} {Q : AQ} {ops : Array Oper} {rest : List Oper} {dst : Option Tmp} {ty : TypeId} {pos : String} {after : Array Edge} {a : Act} {w w' : World} {β : Beta} {S S' : Nat → Prop}
end
def βo (o : Nat → Option (Nat × Nat)) (m : Nat) : Beta := fun j => if j < m then some (o j) else none
def V.free : V → Prop
 | .d (.c v) => Value.scalar v = true
 | .ref _ _ _ _ => True
 | .ptr _ _ _ _ => True
 | _ => False
def blksO (o : Nat → Option (Nat × Nat)) (m : Nat) : List Nat := (List.range m).filterMap fun j => (o j).map (·.1)
theorem blksO_mem {o : Nat → Option (Nat × Nat)} {m b : Nat} : b ∈ blksO o m ↔ ∃ j, j < m ∧ ∃ c, o j = some (b, c) := by
 simp only [blksO, List.mem_filterMap, List.mem_range, Option.map_eq_some_iff, Prod.exists, exists_and_right, exists_eq_right]
def Jbx {A : Type} (o : Nat → Option (Nat × Nat)) (m : Nat) (Ls : A → List Box) : Jx A where
 J a F w := HeapR (βo o m) (fun _ => False) w (someL (Ls a)) ∧ (Ls a).length = m ∧ F = blksO o m
 stab := fun a F w w' h hb => by
  obtain ⟨h1, h2, h3⟩ := h
  refine ⟨⟨fun i bx hi => BoxR_later (β := βo o m) (S := fun _ => False) (w := w) ⟨fun _ _ h => h, fun _ h => h, fun _ h => h.elim⟩ (fun b c hbc => hb b ?_) (h1.bx i bx hi), h1.inj, h1.own, fun _ h => h.elim, h1.un, h1.ad⟩, h2, h3⟩
  rw [h3, blksO_mem]
  have hi2 : i < m := by have := lt_of_get (someL_get hi); omega
  simp only [βo, if_pos hi2] at hbc
  injection hbc with hbc
  exact ⟨i, hi2, c, hbc⟩
 lt := fun a F w h b hb => by
  obtain ⟨h1, h2, h3⟩ := h
  rw [h3, blksO_mem] at hb
  obtain ⟨j, hj, c, hjo⟩ := hb
  have h4 := h1.bx j (Ls a)[j] (someL_mk (List.getElem?_eq_getElem (by omega)))
  exact h4.lt (b := b) (Cp := c) (by simp only [βo, if_pos hj, hjo])
def ptrO (o : Nat → Option (Nat × Nat)) (j : Nat) : Value := match o j with | some (b, _) => .pointer (some ⟨b, 0, none⟩) | none => .pointer none
theorem VxL_ds {r : Nat → Option Nat} {xs : List V} {ys : List D} (h : xs = ys.map V.d) : VxL r xs (ys.map V.d) := by subst h; exact VxL_d ys
end Go.Eng
set_option linter.unusedVariables false
set_option linter.unusedSimpArgs false
namespace Go.Eng
def Cv (S : Nat → Prop) (w : World) (d t : D) : Prop := ∀ (S' : Nat → Prop) (w' : World), (∀ b, S b → S' b) → (∀ b, S b → w'.heap[b]? = w.heap[b]?) → ∀ cs, DC S' w' d cs → DC S' w' t cs
theorem Cv.later {S S' : Nat → Prop} {w w' : World} {d t : D} (h : Cv S w d t) (h1 : ∀ b, S b → S' b) (h2 : ∀ b, S b → w'.heap[b]? = w.heap[b]?) : Cv S' w' d t := fun S2 w2 k1 k2 cs hcs => h S2 w2 (fun b hb => k1 b (h1 b hb)) (fun b hb => (k2 b (h1 b hb)).trans (h2 b hb)) cs hcs
structure PoolC (C : Cx) (pool : List (D × D)) : Prop where
 fz : ∀ b, C.S0 b → b < C.w0.heap.size ∧ ¬ C.Dm b
 cv : ∀ p ∈ pool, Cv C.S0 C.w0 p.1 p.2
section
variable {P : Program} {C : Cx} {n : Nat} {f : Fr} {L : Hp} {Q : AQ} {ops : Array Oper} {qt : List Nat} {rest : List Oper} {dst : Option Tmp} {ty : TypeId} {pos : String} {after : Array Edge} {a : Act} {w w' : World} {β : Beta} {S S' : Nat → Prop} {i : Nat} {r : List Nat}
theorem PoolC.now {pool : List (D × D)} (h : PoolC C pool) (hr : Rel C n f L a w β S) : ∀ p ∈ pool, Cv S w p.1 p.2 := fun p hp =>
 (h.cv p hp).later hr.s0 fun b hb => hr.pres.block b (h.fz b hb).1 (h.fz b hb).2
inductive RdC (pool : List (D × D)) : V → D → Prop
 | d {x : D} : RdC pool (.d x) x
 | cv {x t : D} : (x, t) ∈ pool → x.isAgg = t.isAgg → RdC pool (.d x) t
def HCallE {A : Type} (P : Program) (k : FuncId) (pool : List (D × D)) (args : List V) (Lin : List Box) (stay : Nat) (R : A → Prop) (Lout : A → List Box) : Prop :=
 ∀ (w : World) (S : Nat → Prop) (β : Beta) (xs : List Value), Tab P S w → (∀ p ∈ pool, Cv S w p.1 p.2) → HeapR β S w (someL Lin) → All2 (VR0 β S w) args xs →
  Calls P k xs.toArray w fun en w' => ∃ z q β' S', en = .returned z ∧ R q ∧ HeapR β' S' w' (someL (Lout q)) ∧ (∀ j, j < stay → β' j = β j) ∧
   (∀ b, S b → S' b) ∧ (∀ b, S' b → S b ∨ w.heap.size ≤ b ∨ inBk Lin β b) ∧ Pres (inBk Lin β) w w'
def retEQ {A : Type} (fn : Func) (P : Program) (C0 : Cx) (o : Nat → Option (Nat × Nat)) (stay : Nat) (R : A → Prop) (Lout : A → List Box) : AQ := fun en a w => ends en = true ∧ ∃ q, R q ∧ retHP fn P C0 o stay none [] (Lout q) a w
end
end Go.Eng
set_option linter.unusedVariables false
namespace Go.Eng
def cI (a b : Int) : Int := if a < b then -1 else if b < a then 1 else 0
def cS (a b : ByteArray) : Int := if sless a b = true then -1 else if a = b then 0 else 1
def kR (k : Int) : Int := if k = 1 then 0 else if k = 3 then 1 else if k = 2 then 2 else 3
mutual
def cmpT : T → T → Int
 | .mk k s m ks, .mk k2 s2 m2 ks2 =>
   if cI (kR k) (kR k2) ≠ 0 then cI (kR k) (kR k2) else if k = 1 ∨ k = 3 then cI m m2 else if k = 2 then cS s s2
   else if cI ks.length ks2.length ≠ 0 then cI ks.length ks2.length else if cS s s2 ≠ 0 then cS s s2 else cmpL ks ks2
def cmpL : List T → List T → Int
 | [], [] => 0
 | [], _ :: _ => -1
 | _ :: _, [] => 1
 | x :: r, y :: r2 => if cmpT x y ≠ 0 then cmpT x y else cmpL r r2
end
def rk (k : Int) : Int := if k = 1 then 1 else if k = 2 then 3 else if k = 3 then 2 else 4
theorem lrightL_memS {ks : List T} {d : Int} (h : lrightL ks d = true) : ∀ u ∈ ks, lright u d = true := by
 induction ks with
 | nil => intro u hu; cases hu
 | cons x r ih =>
   simp only [lrightL, Bool.and_eq_true] at h
   intro u hu
   rcases List.mem_cons.1 hu with rfl | hu
   ·exact h.1
   ·exact ih h.2 u hu
theorem lright_wf {k m d : Int} {s : ByteArray} {ks : List T} (h : lright (.mk k s m ks) d = true) :
 ((k = 1 ∧ s = ⟨#[]⟩ ∧ ks = []) ∨ (k = 2 ∧ m = 0 ∧ ks = []) ∨ (k = 3 ∧ s = ⟨#[]⟩ ∧ ks = []) ∨ (k = 4 ∧ m = 0 ∧ ks ≠ [])) ∧ ∀ u ∈ ks, lright u (d + 1) = true := by
 simp only [lright, Bool.and_eq_true] at h
 obtain ⟨⟨_, h1⟩, h2⟩ := h
 refine ⟨?_, lrightL_memS h2⟩
 unfold oneB at h1
 split at h1
 ·rename_i hk
  simp only [Bool.and_eq_true, decide_eq_true_eq] at h1
  exact .inl ⟨hk, h1.1.2, List.eq_nil_of_length_eq_zero (by omega)⟩
 ·split at h1
  ·rename_i hk
   simp only [Bool.and_eq_true, decide_eq_true_eq] at h1
   exact .inr (.inl ⟨hk, h1.1.2, List.eq_nil_of_length_eq_zero (by omega)⟩)
  ·split at h1
   ·rename_i hk
    simp only [Bool.and_eq_true, decide_eq_true_eq] at h1
    exact .inr (.inr (.inl ⟨hk, h1.1.2, List.eq_nil_of_length_eq_zero (by omega)⟩))
   ·split at h1
    ·rename_i hk
     simp only [Bool.and_eq_true, decide_eq_true_eq, inB] at h1
     exact .inr (.inr (.inr ⟨hk, h1.1.2, fun h => by rw [h] at h1; simp at h1⟩))
    ·cases h1
def c2 (m m2 : Int) (n n2 : Int) : Int := if cI n n2 = 0 then cI m m2 else cI n n2
def c3 (s s2 : ByteArray) (m m2 : Int) (n n2 : Int) : Int := if c2 m m2 n n2 = 0 then cS s s2 else c2 m m2 n n2
theorem okT_right {t : T} (h : okT t = true) : lright t 1 = true := by
 unfold okT at h
 rw [sized_eq] at h
 by_cases h3 : lright t 1 = true ∧ sz t ≤ 400
 ·exact h3.1
 ·rw [if_neg h3] at h; simp at h
def insT (t : T) : List T → List T
 | [] => [t]
 | x :: r => if cmpT t x < 0 then t :: x :: r else x :: insT t r
def sortF : List T → List T → List T
 | [], out => out
 | t :: r, out => sortF r (if okT t = true then insT t out else out)
end Go.Eng
set_option linter.unusedVariables false
set_option linter.unusedSimpArgs false
namespace Go.Eng
def thn (x y : Int) : Int := if x ≠ 0 then x else y
def Tr3 (x y z : Int) : Prop := (x ≤ 0 → y ≤ 0 → z ≤ 0) ∧ (x ≤ 0 → y ≤ 0 → z = 0 → x = 0 ∧ y = 0) ∧ (x = 0 → y = 0 → z = 0)
theorem toList_inj {a b : ByteArray} (h : a.toList = b.toList) : a = b := by
 have := toList_eq a b
 rw [h] at this
 simpa using this
def bas (a b : T) : Int := thn (cI (rk a.kind) (rk b.kind)) (thn (cI a.kids.length b.kids.length) (thn (cI a.num b.num) (cS a.name b.name)))
def Rt (t : T) : Prop := ∃ d, lright t d = true
theorem Rt.kids {t : T} (h : Rt t) : ∀ u ∈ t.kids, Rt u := by
 obtain ⟨d, h⟩ := h
 obtain ⟨k, s, m, ks⟩ := t
 exact fun u hu => ⟨d + 1, (lright_wf h).2 u hu⟩
def Srt (xs : List T) : Prop := xs.Pairwise fun a b => cmpT a b ≤ 0
end Go.Eng
set_option linter.unusedVariables false
set_option linter.unusedSimpArgs false
namespace Go.Eng
def swR (pre A mid B post : List D) (i : Nat) : List D := pre ++ (B.take i ++ A.drop i) ++ mid ++ (A.take i ++ B.drop i) ++ post
abbrev TD := T × D
def dsP (ps : List TD) : List D := ps.map (·.2)
structure PL (pool : List (D × D)) (p : TD) : Prop where
 mem : (p.2, inj p.1) ∈ pool
 len : p.2.len? = 4
 ag : p.2.isAgg = true
 rt : Rt p.1
def SrtP (ps : List TD) : Prop := ps.Pairwise fun a b => cmpT a.1 b.1 ≤ 0
@[simp] theorem dsP_length (ps : List TD) : (dsP ps).length = ps.length := by simp [dsP]
theorem dsP_get {ps : List TD} {i : Nat} {p : TD} (h : ps[i]? = some p) : ((dsP ps).map V.d)[i]? = some (.d p.2) := by simp [dsP, h]
theorem inj_isAgg (t : T) : (inj t).isAgg = true := by cases t; rfl
theorem PL.v {pool : List (D × D)} {p : TD} (h : PL pool p) : RdC pool (.d p.2) (inj p.1) := .cv h.mem (by rw [h.ag, inj_isAgg])
theorem Vx_refe {r : Nat → Option Nat} {l : Lay} {i j off m m' : Nat} (h : r j = some i) (hm : m = m') : Vx r (.ref l i off m) (.ref l j off m') := by subst hm; exact .ref h
theorem SrtP.take {S : List TD} (h : SrtP S) (n : Nat) : SrtP (S.take n) := List.Pairwise.sublist (List.take_sublist _ _) h
theorem SrtP.drop {S : List TD} (h : SrtP S) (n : Nat) : SrtP (S.drop n) := List.Pairwise.sublist (List.drop_sublist _ _) h
theorem joinFE {C : Cx} {n : Nat} {f : Fr} {L : Hp} {A : Type} {F : A → Prop} {sl : A → List (Nat × V)} {L2 : A → Hp} (q : A) (src : List (Option Nat)) (hlen : src.length = (L2 q).length) (hnd : nodupS src = true) (hF : F q) (hb : BxTo L src 0 (L2 q)) (hs : SlTo L src f (sl q)) :
 Fin C n (fun a w => ∃ f' L' β S, Rel C n f' L' a w β S ∧ ∃ q, F q ∧ f' = frOf (sl q) ∧ L' = L2 q) f L := fin_wk (Wk_to src _ (L2 q) hlen hnd hb hs ⟨q, hF, rfl, rfl⟩)
end Go.Eng
set_option linter.unusedVariables false
set_option linter.unusedSimpArgs false
namespace Go.Eng
def Bks (k : Nat) (bl : List (List TD)) : Prop := ∀ x ∈ bl, x.length = k ∧ SrtP x
def BlkS (k : Nat) (ps : List TD) : Prop := ∃ (bl : List (List TD)) (la : List TD), ps = bl.flatten ++ la ∧ Bks k bl ∧ SrtP la ∧ la.length < k
theorem Bks.nil {k : Nat} : Bks k [] := fun x h => by cases h
theorem Bks.snoc {k : Nat} {bl : List (List TD)} {x : List TD} (h : Bks k bl) (hl : x.length = k) (hs : SrtP x) : Bks k (bl ++ [x]) := by
 intro y hy
 rcases List.mem_append.1 hy with hy | hy
 ·exact h y hy
 ·rw [List.mem_singleton.1 hy]; exact ⟨hl, hs⟩
theorem Bks.tail {k : Nat} {bl : List (List TD)} {x : List TD} (h : Bks k (x :: bl)) : Bks k bl := fun y hy => h y (by simp [hy])
theorem BlkS.whole {k : Nat} {ps : List TD} (h : BlkS k ps) (hk : ps.length ≤ k) (h0 : 0 < k) : SrtP ps := by
 obtain ⟨bl, la, rfl, h1, h2, h3⟩ := h
 rcases bl with _ | ⟨x, _ | ⟨y, t⟩⟩
 ·simpa using h2
 ·have := h1 x (by simp)
  simp at hk
  have : la = [] := List.eq_nil_of_length_eq_zero (by omega)
  subst this
  simpa using (h1 x (by simp)).2
 ·have k1 := (h1 x (by simp)).1
  have k2 := (h1 y (by simp)).1
  simp at hk
  omega
def V.flatv : V → Bool
 | .d x => D.flat x
 | _ => false
section
variable {P : Program} {C : Cx} {n : Nat} {f : Fr} {L : Hp} {Q : AQ} {ops : Array Oper} {rest : List Oper} {dst : Option Tmp} {ty : TypeId} {pos : String} {after : Array Edge} {a : Act} {w w' : World} {β : Beta} {S S' : Nat → Prop} {i : Nat} {r : List Nat}
end
end Go.Eng
set_option linter.unusedVariables false
set_option linter.unusedSimpArgs false
namespace Go.Eng
def TrZ (w : World) (l : Lay) (zs : List (D × List Value)) (K : List Nat) : Prop := Trs w (List.replicate zs.length l) (zs.map (·.1)) (zs.map (·.2)).flatten K ∧ ∀ z ∈ zs, z.2.length = l.len
theorem TrZ.nil {w : World} {l : Lay} : TrZ w l [] [] := ⟨by simp [Trs], by simp⟩
theorem TrZ.cons_iff {w : World} {l : Lay} {z : D × List Value} {zs : List (D × List Value)} {K : List Nat} : TrZ w l (z :: zs) K ↔ ∃ M1 M2, K = M1 ++ M2 ∧ (∀ b ∈ M1, b ∉ M2) ∧ Tr w z.1 z.2 M1 ∧ z.2.length = l.len ∧ TrZ w l zs M2 := by
 constructor
 ·rintro ⟨h, hl⟩
  simp only [List.length_cons, List.replicate_succ, List.map_cons, List.flatten_cons, Trs] at h
  obtain ⟨f, fr, c1, c2, M1, M2, e1, e2, e3, e4, e5, e6, e7⟩ := h
  injection e1 with e1 e1'
  subst e1; subst e1'
  obtain ⟨q1, q2⟩ := List.append_inj e2 (by rw [hl z (by simp), e3])
  exact ⟨M1, M2, e4, e5, q1 ▸ e6, hl z (by simp), by rw [TrZ, q2]; exact ⟨e7, fun y hy => hl y (by simp [hy])⟩⟩
 ·rintro ⟨M1, M2, e4, e5, e6, e7, e8⟩
  refine ⟨?_, fun y hy => ?_⟩
  ·simp only [List.length_cons, List.replicate_succ, List.map_cons, List.flatten_cons, Trs]
   exact ⟨l, _, z.2, _, M1, M2, rfl, rfl, e7, e4, e5, e6, e8.1⟩
  ·rcases List.mem_cons.1 hy with rfl | hy
   ·exact e7
   ·exact e8.2 y hy
abbrev TZ := T × List Value
def psZ (zs : List TZ) : List TD := zs.map fun z => (z.1, rawD LT z.2)
def poolZ (zs : List TZ) : List (D × D) := zs.map fun z => (rawD LT z.2, inj z.1)
section
variable {B : Nat} {C : Cx} {css : List (List Value)} {ts : List T} {K : List Nat}
end
end Go.Eng
set_option linter.unusedVariables false
set_option linter.unusedSimpArgs false
namespace Go.Eng
mutual
def sameB : T → T → Bool
 | .mk k s m ks, .mk k2 s2 m2 ks2 => decide (k = k2) && decide (s = s2) && decide (m = m2) && sameBL ks ks2
def sameBL : List T → List T → Bool
 | [], [] => true
 | a :: r, b :: r2 => sameB a b && sameBL r r2
 | _, _ => false
end
mutual
theorem sameB_iff : ∀ (a b : T), sameB a b = true ↔ a = b
 | .mk k s m ks, .mk k2 s2 m2 ks2 => by
   have h := sameBL_iff ks ks2
   simp only [sameB, Bool.and_eq_true, decide_eq_true_eq, h, T.mk.injEq, and_assoc]
theorem sameBL_iff : ∀ (a b : List T), sameBL a b = true ↔ a = b
 | [], [] => by simp [sameBL]
 | a :: r, b :: r2 => by
   have h1 := sameB_iff a b
   have h2 := sameBL_iff r r2
   simp only [sameBL, Bool.and_eq_true, h1, h2, List.cons.injEq]
 | [], _ :: _ => by simp [sameBL]
 | _ :: _, [] => by simp [sameBL]
end
instance : DecidableEq T := fun a b => if h : sameB a b = true then isTrue ((sameB_iff a b).1 h) else isFalse fun e => h ((sameB_iff a b).2 e)
def ddQ (prev : T) : List TD → List TD
 | [] => []
 | y :: r => if y.1 = prev then ddQ y.1 r else y :: ddQ y.1 r
def dd : List TD → List TD
 | [] => []
 | x :: r => x :: ddQ x.1 r
def ddT (prev : Option T) : List T → List T
 | [] => []
 | y :: r => if some y = prev then ddT (some y) r else y :: ddT (some y) r
theorem TrZ.sub {w : World} {l : Lay} {zs zs' : List (D × List Value)} (h : zs'.Sublist zs) : ∀ K, TrZ w l zs K → ∃ K', TrZ w l zs' K' ∧ ∀ b ∈ K', b ∈ K := by
 induction h with
 | slnil => intro K h; exact ⟨K, h, fun _ h => h⟩
 | cons z _ ih =>
   intro K h
   obtain ⟨M1, M2, rfl, k2, k3, k4, k5⟩ := TrZ.cons_iff.1 h
   obtain ⟨K', q1, q2⟩ := ih M2 k5
   exact ⟨K', q1, fun b hb => by simp [q2 b hb]⟩
 | cons_cons z _ ih =>
   intro K h
   obtain ⟨M1, M2, rfl, k2, k3, k4, k5⟩ := TrZ.cons_iff.1 h
   obtain ⟨K', q1, q2⟩ := ih M2 k5
   refine ⟨M1 ++ K', TrZ.cons_iff.2 ⟨M1, K', rfl, fun b hb hb2 => k2 b hb (q2 b hb2), k3, k4, q1⟩, fun b hb => ?_⟩
   rcases List.mem_append.1 hb with hb | hb
   ·simp [hb]
   ·simp [q2 b hb]
section
variable {P : Program} {C : Cx} {n : Nat} {f : Fr} {L : Hp} {Q : AQ} {ops : Array Oper} {rest : List Oper} {dst : Option Tmp} {ty : TypeId} {pos : String} {after : Array Edge} {a : Act} {w w' : World} {β : Beta} {S S' : Nat → Prop} {i : Nat} {r : List Nat}
def HCallR {A : Type} (P : Program) (k : FuncId) (pool : List (D × D)) (args : List V) (Lin : List Box) (stay : Nat) (R : A → Prop) (res : A → List V) (Lout : A → List Box) : Prop :=
 ∀ (w : World) (S : Nat → Prop) (β : Beta) (xs : List Value), Tab P S w → (∀ p ∈ pool, Cv S w p.1 p.2) → HeapR β S w (someL Lin) → All2 (VR0 β S w) args xs →
  Calls P k xs.toArray w fun en w' => ∃ ys q β' S', en = .returned (tupV ys) ∧ R q ∧ All2 (VR0 β' S' w') (res q) ys ∧ HeapR β' S' w' (someL (Lout q)) ∧ (∀ j, j < stay → β' j = β j) ∧
   (∀ b, S b → S' b) ∧ (∀ b, S' b → S b ∨ w.heap.size ≤ b ∨ inBk Lin β b) ∧ Pres (inBk Lin β) w w'
def retRQ {A : Type} (fn : Func) (P : Program) (C0 : Cx) (o : Nat → Option (Nat × Nat)) (stay : Nat) (R : A → Prop) (res : A → List V) (Lout : A → List Box) : AQ := fun en a w => ends en = true ∧ ∃ q, R q ∧ retHP fn P C0 o stay none (res q) (Lout q) a w
theorem hin_rel {args : List V} {Lin : List Box} {stay : Nat} {xs : List Value} {fn : Func} (hn : fn.ntmps = n) (hlen : args.length ≤ n) (hst : stay ≤ Lin.length) (hh : HeapR β S w (someL Lin)) (ha : All2 (VR0 β S w) args xs) :
 ∃ o : Nat → Option (Nat × Nat), (∀ j, j < Lin.length → β j = some (o j)) ∧ Rel ⟨w, inBk Lin β, S⟩ n (frV args) (inL o stay 0 Lin) { tmps := xs.toArray ++ Array.replicate (fn.ntmps - xs.toArray.size) undef, defers := [] } w β S := by
 subst hn
 have hsome : ∀ j, j < Lin.length → ∃ q, β j = some q := fun j hj => by
  have := hh.bx j Lin[j] (someL_mk (List.getElem?_eq_getElem hj))
  rcases this.2 with ⟨h1, _⟩ | ⟨b, Cp, _, _, h1, _⟩
  ·exact ⟨_, h1⟩
  ·exact ⟨_, h1⟩
 let o : Nat → Option (Nat × Nat) := fun j => match β j with | some q => q | none => none
 have ho : ∀ j, j < Lin.length → β j = some (o j) := fun j hj => by
  obtain ⟨q, hq⟩ := hsome j hj
  simp only [o, hq]
 have hln : ∀ {vs : List V} {zs : List Value}, All2 (VR0 β S w) vs zs → vs.length = zs.length := by
  intro vs zs h
  induction h with
  | nil => rfl
  | cons _ _ ih => simp [ih]
 have hsz := hln ha
 have hget : ∀ {vs : List V} {zs : List Value}, All2 (VR0 β S w) vs zs → ∀ (i : Nat) (v : V), vs[i]? = some v → ∃ z : Value, zs[i]? = some z ∧ VR0 β S w v z := by
  intro vs zs h
  induction h with
  | nil => intro i d h; simp at h
  | cons h1 _ ih =>
    intro i d hi
    cases i with
    | zero => simp at hi; subst hi; exact ⟨_, rfl, h1⟩
    | succ i => simp at hi; simpa using ih i d hi
 have getL : ∀ (j : Nat) (b0 : Box), Lin[j]? = some b0 → (someL Lin)[j]? = some (some b0) := fun j b0 h => someL_mk h
 refine ⟨o, ho, rfl, ?_, fun i => ?_, ⟨?_, ?_, ?_, hh.fz, fun i hi => hh.un i (by simpa [inL_length] using hi), ?_⟩, ?_, fun b hb => .inl hb, fun b hb => hb, Pres.refl _ _⟩
 ·simp at hsz ⊢; omega
 ·show VR _ _ _ (match args[i]? with | some v => v | none => .any) _
  cases e' : args[i]? with
  | none => exact VR_any ..
  | some v =>
    obtain ⟨z, hz, hv⟩ := hget ha i v e'
    have : (xs.toArray ++ Array.replicate (fn.ntmps - xs.toArray.size) undef).getD i undef = z := by
     have hi := lt_of_get hz
     rw [Array.getD_eq_getD_getElem?, Array.getElem?_append_left (by simpa using hi), List.getElem?_toArray, hz]
     rfl
    simp only
    rw [this]
    exact VR_of_VR0 hv
 ·intro i b hi
  obtain ⟨b0, h1, rfl⟩ := inL_get Lin 0 i b hi
  exact hh.bx i b0 (getL i b0 h1)
 ·intro i j b bx bx' c c' hi hj hb hb'
  obtain ⟨b0, h1, rfl⟩ := inL_get Lin 0 i bx hi
  obtain ⟨b0', h1', rfl⟩ := inL_get Lin 0 j bx' hj
  exact hh.inj i j b b0 b0' c c' (getL i b0 h1) (getL j b0' h1') hb hb'
 ·intro i bx b c hi hbi
  obtain ⟨b0, h1, rfl⟩ := inL_get Lin 0 i bx hi
  exact hh.own i b0 b c (getL i b0 h1) hbi
 ·intro i bx q hi hq
  obtain ⟨b0, h1, rfl⟩ := inL_get Lin 0 i bx hi
  simp only [Nat.zero_add] at hq
  cases e : Nat.blt i stay with
  | false => rw [e] at hq; cases hq
  | true =>
    rw [e] at hq
    injection hq with hq
    rw [ho i (lt_of_get h1), hq]
 ·intro i bx b c hi hbi
  obtain ⟨b0, h1, rfl⟩ := inL_get Lin 0 i bx hi
  exact .inl ⟨i, b0, c, h1, hbi⟩
theorem HCallR_of {A : Type} {R : A → Prop} {pool : List (D × D)} {k : FuncId} {fn : Func} {c : Code} {args : List V} {Lin : List Box} {res : A → List V} {Lout : A → List Box} {stay : Nat} (hf : P.funcs[k]? = some fn) (hb : fn.body = some c) (hn : fn.ntmps = n) (hlen : args.length ≤ n) (hst : stay ≤ Lin.length)
 (h : ∀ C0 o, CT P C0 → PoolC C0 pool → AC P C0 n c (retRQ fn P C0 o stay R res Lout) (frV args) (inL o stay 0 Lin)) : HCallR P k pool args Lin stay R res Lout := by
 intro w S β xs hT hpool hh ha
 refine calls_of_wp hf hb ?_
 obtain ⟨o, ho, hrel⟩ := hin_rel hn hlen hst hh ha
 have getL : ∀ (j : Nat) (b0 : Box), Lin[j]? = some b0 → (someL Lin)[j]? = some (some b0) := fun j b0 h => someL_mk h
 have hown : ∀ b, S b → ¬ inBk Lin β b := fun b hb ⟨j, bx, c, h1, h2⟩ => hh.own j bx b c (getL j bx h1) h2 hb
 have hP : PoolC ⟨w, inBk Lin β, S⟩ pool := ⟨fun b hb => ⟨hh.fz b hb, hown b hb⟩, hpool⟩
 refine wp_mono (h ⟨w, inBk Lin β, S⟩ o (CT.start hT hown) hP _ w _ S hrel) ?_
 rintro en a w' ⟨hend, q, hq, h1, x, h2, ys, β', S', M, h3, h4, h5, h6, h7, h8, h9, h10, h11⟩
 subst h3
 have fin : a.defers = [] ∧ ∃ v, (results fn a.tmps).run P w' = .ok v w' ∧ ∃ ys q β' S', Ending.returned v = .returned (tupV ys) ∧ R q ∧ All2 (VR0 β' S' w') (res q) ys ∧ HeapR β' S' w' (someL (Lout q)) ∧ (∀ j, j < stay → β' j = β j) ∧
  (∀ b, S b → S' b) ∧ (∀ b, S' b → S b ∨ w.heap.size ≤ b ∨ inBk Lin β b) ∧ Pres (inBk Lin β) w w' :=
  ⟨h1, _, h2, ys, q, β', S', rfl, hq, h4.1, h5, fun j hj => by rw [h6 j hj, ho j (by omega)], h9, h10, h11⟩
 cases en with
 | normal => exact fin
 | ret => exact fin
 | _ => cases hend
theorem retr_ok {A : Type} {R : A → Prop} {C0 : Cx} {fn : Func} {o : Nat → Option (Nat × Nat)} {stay : Nat} {res : A → List V} {vs : List V} {Lout : A → List Box} (q : A) (hq : R q) (src : List Nat) (hx : CExt C0 C) (hrv : RetV P f L fn.results.toList vs) (hln : src.length = (Lout q).length) (hnd : nodupS (src.map some) = true) (hB : BxF L (srcOf (src.map some)) o stay 0 (Lout q)) (hst : stay ≤ (Lout q).length)
 (hv : VxL (srcOf (src.map some)) vs (res q)) : Fin C n (retRQ fn P C0 o stay R res Lout .ret) f L := by
 intro a w' β S hr
 refine ⟨rfl, q, hq, ?_⟩
 obtain ⟨ys, hy, hall⟩ := RetV_run (P := P) hr hrv
 have hrun := results_run (fn := fn) hy
 rw [tupV_eq] at hrun
 obtain ⟨g1, g2, g3, g4, g5, g6⟩ := reth_core hx src hln hnd hB hst hr
 exact ⟨hr.df, _, hrun, ys, _, S, [], rfl, ⟨VxL_VR0 (fun j i e => viewB_some e) hv hall, rfl⟩, g1, g2, g3, by simp, g4, g5, g6⟩
end
end Go.Eng
set_option linter.unusedVariables false
set_option linter.unusedSimpArgs false
namespace Go.Eng
def CurW (S : Nat → Prop) (w : World) (b : Nat) (bs : List Int) : Prop :=
 ¬ S b ∧ ∃ (cu : List Value) (ty : TypeId) (sv : Value) (i h : Int) (Cp : Nat), w.heap[b]? = some (.cells cu.toArray ty (0, 0)) ∧ cu.length = Cp * 3 ∧ 1 ≤ Cp ∧ Cp ≤ maxLen ∧ cu[0]? = some sv ∧ cu[1]? = some (.int .i64 i) ∧ cu[2]? = some (.int .i64 h) ∧ 0 ≤ i ∧ i ≤ bs.length ∧ DC S w (.sl .one (u8s bs)) [sv]
structure CurC (C : Cx) (b : Nat) (bs : List Int) : Prop where
 dm : ¬ C.Dm b
 cur : CurW C.S0 C.w0 b bs
 fz : ∀ c, C.S0 c → c < C.w0.heap.size ∧ ¬ C.Dm c
theorem CurW.lt {S : Nat → Prop} {w : World} {b : Nat} {bs : List Int} (h : CurW S w b bs) : b < w.heap.size := by
 obtain ⟨_, cu, ty, sv, i, hh, Cp, h1, _⟩ := h
 exact (Array.getElem?_eq_some_iff.1 h1).1
theorem CurW.later {S S' : Nat → Prop} {w w' : World} {b : Nat} {bs : List Int} (h : CurW S w b bs) (hb : ¬ S' b) (su : ∀ c, S c → S' c) (bl : ∀ c, S c → w'.heap[c]? = w.heap[c]?) (e : w'.heap[b]? = w.heap[b]?) : CurW S' w' b bs := by
 obtain ⟨_, cu, ty, sv, i, hh, Cp, h1, g1, g2, g3, h2, h3, h4, h5, h6, h7⟩ := h
 exact ⟨hb, cu, ty, sv, i, hh, Cp, e.trans h1, g1, g2, g3, h2, h3, h4, h5, h6, DC_later su bl _ _ h7⟩
def DCall (P : Program) (k : FuncId) (ds : List D) (R : D → Prop) : Prop :=
 ∀ (w : World) (S : Nat → Prop) (b : Nat) (bs : List Int) (xs : List Value), (∀ b, S b → b < w.heap.size) → bs.length ≤ lim → Tab P S w → CurW S w b bs → All2 (RD S w) ds xs →
  Calls P k (Value.pointer (some ⟨b, 0, none⟩) :: xs).toArray w fun e w' => ∃ x r S', e = .returned x ∧ R r ∧ RD S' w' r x ∧ CurW S' w' b bs ∧ (∀ b, S b → S' b) ∧ (∀ b, S' b → b < w'.heap.size ∧ (S b ∨ w.heap.size ≤ b)) ∧ Pres (fun c => c = b) w w'
def NewCur (P : Program) (k : FuncId) : Prop :=
 ∀ (w : World) (S : Nat → Prop) (bs : List Int) (xs : List Value), (∀ b, S b → b < w.heap.size) → Tab P S w → All2 (RD S w) [.sl .one (u8s bs)] xs →
  Calls P k xs.toArray w fun e w' => ∃ b S', e = .returned (.pointer (some ⟨b, 0, none⟩)) ∧ w.heap.size ≤ b ∧ CurW S' w' b bs ∧ (∀ b, S b → S' b) ∧ (∀ b, S' b → b < w'.heap.size ∧ (S b ∨ w.heap.size ≤ b)) ∧ Pres (fun _ => False) w w'
theorem DCall.mono {P : Program} {k : FuncId} {ds : List D} {R R' : D → Prop} (h : DCall P k ds R) (hr : ∀ r, R r → R' r) : DCall P k ds R' := fun w S b bs xs hS hl hT hc hd =>
 (h w S b bs xs hS hl hT hc hd).mono fun e w' ⟨x, r, S', h1, h2, h3⟩ => ⟨x, r, S', h1, hr r h2, h3⟩
section
variable {P : Program} {C : Cx} {n : Nat} {f : Fr} {L : Hp} {Q : AQ} {ops : Array Oper} {qt : List Nat} {rest : List Oper} {dst : Option Tmp} {ty : TypeId} {pos : String} {after : Array Edge} {a : Act} {w w' : World} {β : Beta} {S S' : Nat → Prop} {i : Nat} {r : List Nat}
theorem CT.drawn {C C' : Cx} {b : Nat} {bs : List Int} (h : CT P C) (hb : CurC C b bs) (k : Mk C [b] C') : CT P C' := fun g hg => by
 obtain ⟨h1, h2, h3⟩ := h g hg
 have hl := TabIs_lt hg h3
 have hgb : g ≠ b := fun e => hb.cur.1 (e ▸ h1)
 refine ⟨k.s0 g h1, fun hd => ?_, TabIs_same hg h3 (k.pres.block g hl fun h4 => h4.elim h2 fun h5 => hgb (List.mem_singleton.1 h5))⟩
 rcases k.dm g hd with h4 | h4
 ·exact h2 h4
 ·omega
theorem CurC.now {b : Nat} {bs : List Int} (h : CurC C b bs) (hr : Rel C n f L a w β S) : CurW S w b bs ∧ ∀ i bx c, L[i]? = some (some bx) → β i ≠ some (some (b, c)) := by
 have hlt := h.cur.lt
 have hsz := hr.pres.size
 refine ⟨h.cur.later (fun hb => ?_) hr.s0 (fun c hc => hr.pres.block c (h.fz c hc).1 (h.fz c hc).2) (hr.pres.block b hlt h.dm), fun i bx c hL hb => ?_⟩
 ·rcases hr.fz b hb with k | k | k
  ·exact h.cur.1 k
  ·omega
  ·exact h.dm k
 ·rcases hr.own i bx b c hL hb with k | k
  ·exact h.dm k
  ·omega
theorem Rel.drawn {b : Nat} {bs : List Int} (hr : Rel C n f L a w β S) (hc : CurC C b bs) (hp : Pres (fun c => c = b) w w') (su : ∀ c, S c → S' c) (hS : ∀ c, S' c → c < w'.heap.size ∧ (S c ∨ w.heap.size ≤ c)) (hcu : CurW S' w' b bs) :
 Rel ⟨w', boxBlk L β, S'⟩ n f L a w' β S' ∧ Mk C [b] ⟨w', boxBlk L β, S'⟩ ∧ CurC ⟨w', boxBlk L β, S'⟩ b bs := by
 obtain ⟨h1, h2⟩ := hc.now hr
 have hsz := hr.pres.size
 have hsz2 := hp.size
 have old : ∀ c, c < w.heap.size → c ≠ b → w'.heap[c]? = w.heap[c]? := fun c hc hne => hp.block c hc hne
 have lat : Later β S w β S' w' := ⟨fun _ _ h => h, su, fun c hc => old c (hr.hp.fz c hc) fun e => h1.1 (e ▸ hc)⟩
 have own' : ∀ i bx c cc, L[i]? = some (some bx) → β i = some (some (c, cc)) → ¬ S' c := fun i bx c cc hL hb hs => by
  rcases (hS c hs).2 with k | k
  ·exact hr.hp.own i bx c cc hL hb k
  ·have := (hr.hp.bx i bx hL).lt hb; omega
 refine ⟨⟨hr.df, hr.sz, fun i => VR_later lat (hr.fr i), ⟨fun i bx hi => BoxR_later lat (fun c cc hb => old c ((hr.hp.bx i bx hi).lt hb) fun e => h2 i bx cc hi (e ▸ hb)) (hr.hp.bx i bx hi), hr.hp.inj, own', fun c hc => (hS c hc).1, hr.hp.un, hr.hp.ad⟩, fun i bx c cc hL hb => .inl ⟨i, bx, cc, hL, hb⟩, fun c hc => .inl hc, fun c hc => hc, Pres.refl _ _⟩, ?_, ?_⟩
 ·refine ⟨⟨hp.os.trans hr.pres.os, hp.tape.trans hr.pres.tape, hp.output.trans hr.pres.output, Nat.le_trans hsz hsz2, fun c hc hd => ?_⟩, fun c ⟨i, bx, cc, hL, hb⟩ => hr.own i bx c cc hL hb, fun c hc => su c (hr.s0 c hc), fun c hc => ?_⟩
  ·exact (old c (by omega) fun e => hd (.inr (by simp [e]))).trans (hr.pres.block c hc fun h => hd (.inl h))
  ·rcases (hS c hc).2 with k | k
   ·exact hr.fz c k
   ·exact .inr (.inl (by omega))
 ·exact ⟨fun ⟨i, bx, cc, hL, hb⟩ => h2 i bx cc hL hb, hcu, fun c hc => ⟨(hS c hc).1, fun ⟨i, bx, cc, hL, hb⟩ => own' i bx c cc hL hb hc⟩⟩
theorem dcall_wp {b : Nat} {bs : List Int} (hT : CT P C) (hc : CurC C b bs) (hl : bs.length ≤ lim) {x y : Operand} {args : List Operand} {ts : Array TypeId} {k : FuncId} {ds : List D} {R : D → Prop} (hr : Rel C n f L a w β S) (hx : ev f x = .d (.fn k [])) (hcl : Callable P k) (hp : DCall P k ds R) (hy : ev f y = rawP b 0) (ha : args.map (ev f) = ds.map V.d) (hd : dstOk n dst = true)
 (K : Act → World → Prop) (Qc : Exit → Act → World → Prop) (hK : ∀ C' r a' w' β' S', R r → Mk C [b] C' → CurC C' b bs → Rel C' n (updo f dst (.d r)) L a' w' β' S' → K a' w') : Oper.wp P ⟨dst, callV x (y :: args).toArray ts, ty, pos, after, none⟩ a w K Qc := by
 have hv := rel_ev hr x
 rw [hx] at hv
 obtain ⟨cv, c1, c2⟩ := VR_fn hv
 have hcv : cv = [] := by
  have := (DCs_len _ _ _ c2).1
  simpa [Lay.lens] using this
 subst hcv
 unfold Oper.wp
 rw [call_run hcl c1, Oper.upon_enter]
 have heq : ((y :: args).toArray.map a.eval ++ ([] : List Value).toArray) = (Value.pointer (some ⟨b, 0, none⟩) :: args.map a.eval).toArray := by
  have := eval_c hr hy
  simp [this]
 rw [heq]
 obtain ⟨h1, h2⟩ := hc.now hr
 refine (hp w S b bs _ hr.hp.fz hl (hT.tab hr) h1 (args_RD hr args ds ha)).mono ?_
 rintro e w' ⟨z, r, S', rfl, q1, q2, q3, q4, q5, q6⟩
 obtain ⟨k1, k2, k3⟩ := hr.drawn hc q6 q4 q5 q3
 exact hK _ r _ _ _ _ q1 k2 k3 (k1.puto (dstOk_spec hd) (VR_of_VR0 (.inr q2)))
theorem AL_dcall {b : Nat} {bs : List Int} (hT : CT P C) (hc : CurC C b bs) (hl : bs.length ≤ lim) {x y : Operand} {args : List Operand} {ts : Array TypeId} {k : FuncId} {ds : List D} {R : D → Prop} (hx : ev f x = .d (.fn k [])) (hcl : Callable P k) (hp : DCall P k ds R) (hy : ev f y = rawP b 0) (ha : args.map (ev f) = ds.map V.d) (hd : dstOk n dst = true)
 (h : ∀ C' r, R r → Mk C [b] C' → CurC C' b bs → CT P C' → AL P C' n ops rest Q (updo f dst (.d r)) L) : AL P C n ops (⟨dst, callV x (y :: args).toArray ts, ty, pos, after, none⟩ :: rest) Q f L := by
 intro a w β S hr
 refine wpList_plain rfl fun K hK => ?_
 exact dcall_wp hT hc hl hr hx hcl hp hy ha hd K _ fun C' r a' w' β' S' h1 h2 h3 h4 => hK _ _ (h C' r h1 h2 h3 (hT.drawn hc h2) _ _ _ _ h4)
theorem StE_dcall {b : Nat} {bs : List Int} (hT : CT P C) (hc : CurC C b bs) (hl : bs.length ≤ lim) {x y : Operand} {args : List Operand} {ts : Array TypeId} {k : FuncId} {ds : List D} {R : D → Prop} {g : Option (Nat × Bool)} (hrun : ∀ (a : Act) (w : World) (β : Beta) (S : Nat → Prop) (f' : Fr) (L' : Hp), (∀ s ∈ (⟨dst, callV x (y :: args).toArray ts, ty, pos, after, g⟩ : Oper).looksAt ops, f' s = f s) → Rel C n f' L' a w β S → Region.wanted (⟨dst, callV x (y :: args).toArray ts, ty, pos, after, g⟩ : Oper) (yielded ops a.tmps) = true)
 (hx : ev f x = .d (.fn k [])) (hcl : Callable P k) (hp : DCall P k ds R) (hy : ev f y = rawP b 0) (ha : args.map (ev f) = ds.map V.d) (hd : dstOk n dst = true) :
 StE P C n ops ⟨dst, callV x (y :: args).toArray ts, ty, pos, after, g⟩ f (fun C' v => ∃ r, R r ∧ Mk C [b] C' ∧ CurC C' b bs ∧ v = .d r) := by
 intro f' hf L' a w β S hr K Qc hK
 have hev := ev_looks hf
 have hx' : ev f' x = .d (.fn k []) := (hev x (by simp [Op.operands, Call.operands])).trans hx
 have hy' : ev f' y = rawP b 0 := (hev y (by simp [Op.operands, Call.operands])).trans hy
 have ha' : args.map (ev f') = ds.map V.d := by
  rw [maps_congr fun z hz => hev z (by simp [Op.operands, Call.operands]; exact .inr (.inr hz))]
  exact ha
 unfold runOr
 rw [if_pos (hrun a w β S f' L' hf hr)]
 exact dcall_wp (ty := ty) (pos := pos) (after := after) hT hc hl hr hx' hcl hp hy' ha' hd K Qc fun C' r a' w' β' S' h1 h2 h3 h4 => hK C' _ _ _ _ _ ⟨r, h1, h2, h3, rfl⟩ h4
theorem DT_dcall {b : Nat} {bs : List Int} (hT : CT P C) (hc : CurC C b bs) (hl : bs.length ≤ lim) {x y : Operand} {args : List Operand} {ts : Array TypeId} {k : FuncId} {ds : List D} {R : D → Prop} (ho : ops[i]? = some ⟨dst, callV x (y :: args).toArray ts, ty, pos, after, none⟩)
 (hx : ev f x = .d (.fn k [])) (hcl : Callable P k) (hp : DCall P k ds R) (hy : ev f y = rawP b 0) (ha : args.map (ev f) = ds.map V.d) (hd : dstOk n dst = true) (hr : (r.all fun j => (lookM (masks ops (i :: r) []) j).testBit i) = true)
 (h : ∀ C' q, R q → Mk C [b] C' → CurC C' b bs → CT P C' → DT P n ops qt C' Q r (updo f dst (.d q)) L) : DT P n ops qt C Q (i :: r) f L :=
 .e ho rfl (StE_dcall hT hc hl (fun _ _ _ _ _ _ _ _ => by simp [Region.wanted]) hx hcl hp hy ha hd) hr (fun C' v ⟨_, _, h1, _⟩ hT => hT.drawn hc h1) fun C' v ⟨q, h0, h1, h2, h3⟩ => by subst h3; exact h C' q h0 h1 h2 (hT.drawn hc h1)
theorem AL_newcur (hT : CT P C) {bs : List Int} {x y : Operand} {ts : Array TypeId} {k : FuncId} (hx : ev f x = .d (.fn k [])) (hcl : Callable P k) (hp : NewCur P k) (hy : ev f y = .d (.sl .one (u8s bs))) (hd : dstOk n dst = true)
 (h : ∀ C' b, CExt C C' → C.w0.heap.size ≤ b → CurC C' b bs → AL P C' n ops rest Q (updo f dst (rawP b 0)) L) : AL P C n ops (⟨dst, callV x #[y] ts, ty, pos, after, none⟩ :: rest) Q f L := by
 intro a w β S hr
 refine wpList_plain rfl fun K hK => ?_
 have hv := rel_ev hr x
 rw [hx] at hv
 obtain ⟨cv, c1, c2⟩ := VR_fn hv
 have hcv : cv = [] := by
  have := (DCs_len _ _ _ c2).1
  simpa [Lay.lens] using this
 subst hcv
 unfold Oper.wp
 rw [call_run hcl c1, Oper.upon_enter]
 have heq : ((#[y] : Array Operand).map a.eval ++ ([] : List Value).toArray) = ([y].map a.eval).toArray := by simp
 rw [heq]
 refine (hp w S bs _ hr.hp.fz (hT.tab hr) (args_RD hr [y] [.sl .one (u8s bs)] (by simp [hy]))).mono ?_
 rintro e w' ⟨b, S', rfl, q1, q2, q3, q4, q5⟩
 have hr' := hr.called q5 q3 q4
 obtain ⟨h1, h2⟩ := hr'.restart
 refine hK _ _ (h _ b h1 (by have := hr.pres.size; omega) ⟨fun ⟨i, bx, c, hL, hb⟩ => ?_, q2, fun c hc => ⟨(q4 c hc).1, fun ⟨i, bx, cc, hL, hb⟩ => ?_⟩⟩ _ _ _ _ (h2.puto (dstOk_spec hd) (VR_c.2 ⟨rfl, rfl⟩)))
 ·have := (hr.hp.bx i bx hL).lt hb; omega
 ·exact hr'.hp.own i bx c cc hL hb hc
def frD (b : Nat) (ds : List D) : Fr := fun i => match i with | 0 => rawP b 0 | i + 1 => match ds[i]? with | some d => .d d | none => .any
def retD (fn : Func) (P : Program) (w0 : World) (S0 : Nat → Prop) (b : Nat) (bs : List Int) (R : D → Prop) (a : Act) (w' : World) : Prop :=
 a.defers = [] ∧ ∃ v, (results fn a.tmps).run P w' = .ok v w' ∧ ∃ r S', R r ∧ RD S' w' r v ∧ CurW S' w' b bs ∧ (∀ b, S0 b → S' b) ∧ (∀ b, S' b → b < w'.heap.size ∧ (S0 b ∨ w0.heap.size ≤ b)) ∧ Pres (fun c => c = b) w0 w'
def retDQ (fn : Func) (P : Program) (w0 : World) (S0 : Nat → Prop) (b : Nat) (bs : List Int) (R : D → Prop) : AQ := fun e a w => ends e = true ∧ retD fn P w0 S0 b bs R a w
theorem drel {b : Nat} {ds : List D} {xs : List Value} {fn : Func} (hn : fn.ntmps = n) (hlen : ds.length + 1 ≤ n) (hS : ∀ c, S c → c < w.heap.size) (hd : All2 (RD S w) ds xs) :
 Rel ⟨w, fun _ => False, S⟩ n (frD b ds) [] { tmps := (Value.pointer (some ⟨b, 0, none⟩) :: xs).toArray ++ Array.replicate (fn.ntmps - (Value.pointer (some ⟨b, 0, none⟩) :: xs).toArray.size) undef, defers := [] } w (fun _ => none) S := by
 have hxl : xs.length = ds.length := by
  induction hd with
  | nil => rfl
  | cons _ _ ih => simp [ih (by simp at hlen; omega)]
 have hget : ∀ (ds : List D) (xs : List Value), All2 (RD S w) ds xs → ∀ (i : Nat) (d : D), ds[i]? = some d → ∃ x : Value, xs[i]? = some x ∧ RD S w d x := by
  intro ds xs h
  induction h with
  | nil => intro i d h; simp at h
  | cons h1 _ ih =>
    intro i d hi
    cases i with
    | zero => simp at hi; subst hi; exact ⟨_, rfl, h1⟩
    | succ i => simp at hi; simpa using ih i d hi
 refine ⟨rfl, ?_, fun i => ?_, ⟨?_, ?_, ?_, hS, fun _ _ => rfl, fun i bx q hi => by simp at hi⟩, ?_, fun b hb => .inl hb, fun b hb => hb, Pres.refl _ _⟩
 ·simp; omega
 ·cases i with
  | zero =>
    have : ((Value.pointer (some ⟨b, 0, none⟩) :: xs).toArray ++ Array.replicate (fn.ntmps - (Value.pointer (some ⟨b, 0, none⟩) :: xs).toArray.size) undef).getD 0 undef = Value.pointer (some ⟨b, 0, none⟩) := by
     rw [Array.getD_eq_getD_getElem?, Array.getElem?_append_left (by simp)]; rfl
    rw [this]
    exact VR_c.2 ⟨rfl, rfl⟩
  | succ i =>
    show VR _ _ _ (match ds[i]? with | some d => V.d d | none => .any) _
    cases e : ds[i]? with
    | none => exact VR_any ..
    | some d =>
      obtain ⟨x, hx, hrd⟩ := hget ds xs hd i d e
      have : ((Value.pointer (some ⟨b, 0, none⟩) :: xs).toArray ++ Array.replicate (fn.ntmps - (Value.pointer (some ⟨b, 0, none⟩) :: xs).toArray.size) undef).getD (i + 1) undef = x := by
       have hi := lt_of_get hx
       rw [Array.getD_eq_getD_getElem?, Array.getElem?_append_left (by simpa using hi), List.getElem?_toArray, List.getElem?_cons_succ, hx]
       rfl
      simp only
      rw [this]
      exact VR0_of_RD hrd
 ·intro i b h; simp at h
 ·intro i j b bx bx' c c' h; simp at h
 ·intro i bx b c h; simp at h
 ·intro i bx b c h; simp at h
theorem DCall_of {k : FuncId} {fn : Func} {c : Code} {ds : List D} {R : D → Prop} (hf : P.funcs[k]? = some fn) (hb : fn.body = some c) (hn : fn.ntmps = n) (hlen : ds.length + 1 ≤ n)
 (h : ∀ C0 b bs, (∀ c, ¬ C0.Dm c) → bs.length ≤ lim → CT P C0 → CurC C0 b bs → AC P C0 n c (retDQ fn P C0.w0 C0.S0 b bs R) (frD b ds) []) : DCall P k ds R := by
 intro w S b bs xs hS hl hT hcu hd
 refine calls_of_wp hf hb ?_
 let C : Cx := ⟨w, fun _ => False, S⟩
 refine wp_mono (h C b bs (fun _ h => h) hl (CT.start hT fun _ _ h => h) ⟨fun h => h, hcu, fun c hc => ⟨hS c hc, fun h => h⟩⟩ _ w _ S (drel hn hlen hS hd)) ?_
 rintro e a w' ⟨hend, h1, v, h2, r, S', h3, h4, h5, h6, h7, h8⟩
 have fin : a.defers = [] ∧ ∃ v, (results fn a.tmps).run P w' = .ok v w' ∧ ∃ x r S', Ending.returned v = .returned x ∧ R r ∧ RD S' w' r x ∧ CurW S' w' b bs ∧ (∀ b, S b → S' b) ∧ (∀ b, S' b → b < w'.heap.size ∧ (S b ∨ w.heap.size ≤ b)) ∧ Pres (fun c => c = b) w w' := ⟨h1, v, h2, v, r, S', rfl, h3, h4, h5, h6, h7, h8⟩
 cases e with
 | normal => exact fin
 | ret => exact fin
 | _ => cases hend
theorem retd_ok {C0 : Cx} {fn : Func} {b : Nat} {bs : List Int} {R : D → Prop} {v : V} {r : D} (hM : Mk C0 [b] C) (hcu : CurC C b bs) (hdm : ∀ c, ¬ C0.Dm c) (hrv : RetV P f L fn.results.toList [v]) (hrd : Reads L (fun _ => True) v r) (hR : R r) : Fin C n (retDQ fn P C0.w0 C0.S0 b bs R .ret) f L := by
 intro a w' β' S' hr
 refine ⟨rfl, hr.df, ?_⟩
 obtain ⟨ys, hy, hall⟩ := RetV_run (P := P) hr hrv
 have hrun := results_run (fn := fn) hy
 rw [tupV_eq] at hrun
 obtain ⟨h1, h2⟩ := hcu.now hr
 cases hall with
 | cons h3 h4 =>
   cases h4
   rename_i y
   let S2 : Nat → Prop := fun c => S' c ∨ ∃ i bx cc, L[i]? = some (some bx) ∧ β' i = some (some (c, cc))
   have hsz := hM.pres.size
   have hsz2 := hr.pres.size
   have hne : v ≠ .any := by rintro rfl; cases hrd
   have hy1 : RD S2 w' r y := by
    rcases h3 with h3 | ⟨h3, h5⟩
    ·exact absurd h3 hne
    ·exact ⟨Reads_sound hr.hp (fun b h => .inl h) (fun i bx b c _ hL hb => .inr ⟨i, bx, c, hL, hb⟩) hrd _ h3, by rw [← Reads_isAgg hrd]; exact h5⟩
   have hcb : ∀ c, S2 c → c ≠ b := by
    rintro c (hc | ⟨i, bx, cc, hL, hb⟩) rfl
    ·exact h1.1 hc
    ·exact h2 i bx cc hL hb
   refine ⟨y, hrun, r, S2, hR, hy1, h1.later (fun hb => hcb b hb rfl) (fun c hc => .inl hc) (fun _ _ => rfl) rfl, fun c hc => .inl (hr.s0 c (hM.s0 c hc)), fun c hc => ?_, ?_⟩
   ·rcases hc with hc | ⟨i, bx, cc, hL, hb⟩
    ·refine ⟨hr.hp.fz c hc, ?_⟩
     rcases hr.fz c hc with k | k | k
     ·rcases hM.fz c k with k | k | k
      ·exact .inl k
      ·exact .inr k
      ·exact absurd k (hdm c)
     ·exact .inr (by omega)
     ·rcases hM.dm c k with k | k
      ·exact absurd k (hdm c)
      ·exact .inr k
    ·refine ⟨(hr.hp.bx i bx hL).lt hb, .inr ?_⟩
     rcases hr.own i bx c cc hL hb with k | k
     ·rcases hM.dm c k with k | k
      ·exact absurd k (hdm c)
      ·exact k
     ·omega
   ·refine ⟨hr.pres.os.trans hM.pres.os, hr.pres.tape.trans hM.pres.tape, hr.pres.output.trans hM.pres.output, Nat.le_trans hsz hsz2, fun c hc hd => ?_⟩
    rw [hr.pres.block c (by omega) fun h => by
     rcases hM.dm c h with k | k
     ·exact hdm c k
     ·omega]
    exact hM.pres.block c hc fun h => h.elim (hdm c) fun h => hd (List.mem_singleton.1 h)
def DLCall (P : Program) (k : FuncId) (ds : List D) (e : TypeId) (l : Lay) (R : List D → Prop) : Prop :=
 ∀ (w : World) (S : Nat → Prop) (b : Nat) (bs : List Int) (xs : List Value), (∀ b, S b → b < w.heap.size) → bs.length ≤ lim → Tab P S w → CurW S w b bs → All2 (RD S w) ds xs →
  Calls P k (Value.pointer (some ⟨b, 0, none⟩) :: xs).toArray w fun en w' => ∃ x ys S' o, en = .returned x ∧ R ys ∧ LB S' w' e l ys x o ∧ (∀ b2 c, o = some (b2, c) → w.heap.size ≤ b2) ∧ CurW S' w' b bs ∧ (∀ b, S b → S' b) ∧ (∀ b, S' b → b < w'.heap.size ∧ (S b ∨ w.heap.size ≤ b)) ∧ Pres (fun c => c = b) w w'
def retDLQ (fn : Func) (P : Program) (w0 : World) (S0 : Nat → Prop) (b : Nat) (bs : List Int) (e : TypeId) (l : Lay) (R : List D → Prop) : AQ := fun en a w' => ends en = true ∧ a.defers = [] ∧ ∃ v, (results fn a.tmps).run P w' = .ok v w' ∧ ∃ ys S' o, R ys ∧ LB S' w' e l ys v o ∧ (∀ b2 c, o = some (b2, c) → w0.heap.size ≤ b2) ∧ CurW S' w' b bs ∧ (∀ b, S0 b → S' b) ∧ (∀ b, S' b → b < w'.heap.size ∧ (S0 b ∨ w0.heap.size ≤ b)) ∧ Pres (fun c => c = b) w0 w'
theorem Rel.addbox {bx : Box} {o : Option (Nat × Nat)} (h : Rel C n f L a w β S) (hna : bx.ty.ad = none) (hbx : BoxR (setβ β L.length o) S w L.length bx) (hS : ∀ b c, o = some (b, c) → ¬ S b) (hne : ∀ b c, o = some (b, c) → ∀ i bx c', L[i]? = some (some bx) → β i ≠ some (some (b, c'))) (how : ∀ b c, o = some (b, c) → C.Dm b ∨ C.w0.heap.size ≤ b) :
 Rel C n f (L ++ [some bx]) a w (setβ β L.length o) S := by
 have lat : Later β S w (setβ β L.length o) S w := later_new (h.hp.un _ (Nat.le_refl _)) fun _ _ => rfl
 have cases_ : ∀ i b, (L ++ [some bx])[i]? = some (some b) → (i < L.length ∧ L[i]? = some (some b)) ∨ (i = L.length ∧ bx = b) := fun i b hi => by
  rcases get_snoc _ _ _ _ hi with h1 | ⟨h1, h2⟩
  ·exact .inl h1
  ·exact .inr ⟨h1, by injection h2⟩
 refine h.later lat ⟨?_, ?_, ?_, h.hp.fz, ?_, ?_⟩ ?_ h.fz h.pres
 ·intro i b hi
  rcases cases_ i b hi with ⟨h1, h2⟩ | ⟨rfl, rfl⟩
  ·exact BoxR_later lat (fun _ _ _ => rfl) (h.hp.bx i b h2)
  ·exact hbx
 ·intro i j b bx1 bx2 c c' hi hj hbi hbj
  rcases cases_ i bx1 hi with ⟨h1, h2⟩ | ⟨rfl, rfl⟩ <;> rcases cases_ j bx2 hj with ⟨k1, k2⟩ | ⟨rfl, rfl⟩
  ·rw [setβ_ne _ _ (by omega)] at hbi hbj
   exact h.hp.inj i j b bx1 bx2 c c' h2 k2 hbi hbj
  ·rw [setβ_ne _ _ (by omega)] at hbi
   rw [setβ_self] at hbj
   injection hbj with hbj
   exact absurd hbi (hne b c' hbj i bx1 c h2)
  ·rw [setβ_ne _ _ (by omega)] at hbj
   rw [setβ_self] at hbi
   injection hbi with hbi
   exact absurd hbj (hne b c hbi j bx2 c' k2)
  ·rfl
 ·intro i bx1 b c hi hb
  rcases cases_ i bx1 hi with ⟨h1, h2⟩ | ⟨rfl, rfl⟩
  ·rw [setβ_ne _ _ (by omega)] at hb
   exact h.hp.own i bx1 b c h2 hb
  ·rw [setβ_self] at hb
   injection hb with hb
   exact hS b c hb
 ·intro i hi
  simp at hi
  rw [setβ_ne _ _ (by omega)]
  exact h.hp.un i (by omega)
 ·intro i bx1 q hi hq
  rcases cases_ i bx1 hi with ⟨h1, h2⟩ | ⟨rfl, rfl⟩
  ·rw [setβ_ne _ _ (by omega)]
   exact h.hp.ad i bx1 q h2 hq
  ·rw [hna] at hq; cases hq
 ·intro i bx1 b c hi hb
  rcases cases_ i bx1 hi with ⟨h1, h2⟩ | ⟨rfl, rfl⟩
  ·rw [setβ_ne _ _ (by omega)] at hb
   exact h.own i bx1 b c h2 hb
  ·rw [setβ_self] at hb
   injection hb with hb
   exact how b c hb
abbrev LCU : Lay := .st [.one, .one, .one]
abbrev curBox (ty : TypeId) (bs : List Int) (i h : Int) : Box := ⟨ty, LCU, [.agg [.one, .one, .one] [.d (.sl .one (u8s bs)), i64 i, i64 h]]⟩
theorem cur_VCs {bs : List Int} {i h : Int} {ds : List Value} : VCs β S w (List.replicate 1 LCU) [.agg [.one, .one, .one] [.d (.sl .one (u8s bs)), i64 i, i64 h]] ds ↔ ∃ sv, ds = [sv, .int .i64 i, .int .i64 h] ∧ DC S w (.sl .one (u8s bs)) [sv] := by
 constructor
 ·intro hh
  simp only [List.replicate_one, VCs, VC] at hh
  obtain ⟨f0, fr, c1, c2, e0, rfl, h3, ⟨g0, gr, d1, d2, k0, rfl, k3, k4, m0, mr, e1, e2, n0, rfl, n3, n4, o0, or_, p1, p2, q0, rfl, q3, q4, q5⟩, h5⟩ := hh
  injection e0 with e0 e0'
  injection k0 with k0 k0'
  subst k0; subst k0'
  injection n0 with n0 n0'
  subst n0; subst n0'
  injection q0 with q0 q0'
  subst q0
  simp only [DC] at n4 q4
  obtain ⟨hq5, rfl⟩ := q5
  obtain ⟨h50, rfl⟩ := h5
  have hl : d1.length = 1 := k3
  match d1, hl with
  | [sv], _ => exact ⟨sv, by rw [n4.1, q4.1]; simp, k4⟩
 ·rintro ⟨sv, rfl, hd⟩
  simp only [List.replicate_one, VCs, VC]
  refine ⟨LCU, [], [sv, .int .i64 i, .int .i64 h], [], rfl, by simp, rfl, ⟨.one, [.one, .one], [sv], [.int .i64 i, .int .i64 h], rfl, rfl, rfl, hd, .one, [.one], [.int .i64 i], [.int .i64 h], rfl, rfl, rfl, ?_, .one, [], [.int .i64 h], [], rfl, rfl, rfl, ?_, rfl, rfl⟩, rfl, rfl⟩
  ·simp [DC, Value.scalar]
  ·simp [DC, Value.scalar]
theorem BoxR_cur {bs : List Int} {ii h : Int} {ty : TypeId} {b Cp : Nat} (hβ : β i = some (some (b, Cp))) (hb : BoxR β S w i (curBox ty bs ii h)) : ∃ (cu : List Value) (sv : Value), w.heap[b]? = some (.cells cu.toArray ty (0, 0)) ∧ cu.length = Cp * 3 ∧ 1 ≤ Cp ∧ Cp ≤ maxLen ∧ cu[0]? = some sv ∧ cu[1]? = some (.int .i64 ii) ∧ cu[2]? = some (.int .i64 h) ∧ DC S w (.sl .one (u8s bs)) [sv] := by
 obtain ⟨_, k⟩ := hb
 rcases k with ⟨k, _⟩ | ⟨b', Cp', cur, ds, q1, q2, q3, q4, q5, q6⟩
 ·rw [hβ] at k; cases k
 ·rw [hβ] at q1
  injection q1 with q1; injection q1 with q1; injection q1 with q1 q1'
  subst q1; subst q1'
  obtain ⟨sv, rfl, hd⟩ := cur_VCs.1 q5
  refine ⟨cur.toList, sv, by simpa using q2, by rw [Array.length_toList, show cur.size = Cp * LCU.len from q3]; rfl, q4.1, q4.2, ?_, ?_, ?_, hd⟩
  ·simpa using q6 0 sv rfl
  ·simpa using q6 1 _ rfl
  ·simpa using q6 2 _ rfl
theorem DCall_of_box {k : FuncId} {ds : List D} {A : Type} {R : D → Prop} {Rq : List Int → A → Int → Int → Prop} {res : A → D}
 (h : ∀ (bs : List Int) (ty : TypeId) (i h : Int), bs.length ≤ lim → 0 ≤ i → i ≤ bs.length → HCallR P k [] (.ptr LCU 0 0 [] :: ds.map V.d) [curBox ty bs i h] 1 (fun q : A × Int × Int => Rq bs q.1 q.2.1 q.2.2) (fun q => [.d (res q.1)]) (fun q => [curBox ty bs q.2.1 q.2.2]))
 (hR : ∀ bs q i h, Rq bs q i h → R (res q) ∧ 0 ≤ i ∧ i ≤ (bs.length : Int)) : DCall P k ds R := by
 intro w S b bs xs hS hl hT hcu hd
 obtain ⟨hnS, cu, ty, sv, i, hh, Cp, h1, g1, g2, g3, h2, h3, h4, h5, h6, h7⟩ := hcu
 let β : Beta := fun j => if j = 0 then some (some (b, Cp)) else none
 have hin : ∀ c, inBk [curBox ty bs i hh] β c ↔ c = b := by
  intro c
  constructor
  ·rintro ⟨j, bx, cc, e1, e2⟩
   have : j = 0 := by have := lt_of_get e1; simpa using this
   subst this
   simp only [β, if_true] at e2
   injection e2 with e2; injection e2 with e2; injection e2 with e2 _
   exact e2.symm
  ·rintro rfl
   exact ⟨0, _, Cp, rfl, by simp [β]⟩
 have hheap : HeapR β S w (someL [curBox ty bs i hh]) := by
  have only : ∀ (j : Nat) (bx : Box), (someL [curBox ty bs i hh])[j]? = some (some bx) → j = 0 ∧ bx = curBox ty bs i hh := fun j bx hj => by
   have e1 := someL_get hj
   have : j = 0 := by have := lt_of_get e1; simpa using this
   subst this
   simp at e1
   exact ⟨rfl, e1.symm⟩
  refine ⟨fun j bx hj => ?_, fun j j' c bx bx' cc cc' hj hj' _ _ => ?_, fun j bx c cc hj hb => ?_, hS, fun j hj => ?_, fun j bx q hj hq => ?_⟩
  ·obtain ⟨rfl, rfl⟩ := only j bx hj
   refine ⟨by simp only [List.length_singleton, lim]; omega, .inr ⟨b, Cp, cu.toArray, [sv, .int .i64 i, .int .i64 hh], by simp [β], h1, by rw [List.size_toArray, g1]; rfl, ⟨g2, g3⟩, cur_VCs.2 ⟨sv, rfl, h7⟩, ?_⟩⟩
   intro j x hx
   match j, hx with
   | 0, hx => simp at hx; subst hx; simpa using h2
   | 1, hx => simp at hx; subst hx; simpa using h3
   | 2, hx => simp at hx; subst hx; simpa using h4
   | j + 3, hx => simp at hx
  ·rw [(only j bx hj).1, (only j' bx' hj').1]
  ·obtain ⟨rfl, rfl⟩ := only j bx hj
   simp only [β, if_true] at hb
   injection hb with hb; injection hb with hb; injection hb with hb _
   exact hb ▸ hnS
  ·simp only [someL, List.map_cons, List.map_nil, List.length_singleton] at hj
   simp only [β]
   rw [if_neg (by omega)]
  ·obtain ⟨rfl, rfl⟩ := only j bx hj
   cases hq
 have hargs : All2 (VR0 β S w) (.ptr LCU 0 0 [] :: ds.map V.d) (Value.pointer (some ⟨b, 0, none⟩) :: xs) := by
  refine .cons (.inr ⟨?_, rfl⟩) ?_
  ·simp only [VC]
   exact ⟨b, Cp, 0, LCU, by simp [β], rfl, by simp [Value.cells]⟩
  ·have : ∀ {ds : List D} {xs : List Value}, All2 (RD S w) ds xs → All2 (VR0 β S w) (ds.map V.d) xs := by
    intro ds xs h
    induction h with
    | nil => exact .nil
    | cons h1 _ ih => exact .cons (.inr h1) ih
   exact this hd
 refine (h bs ty i hh hl h5 h6 w S β _ hT (fun p hp => by cases hp) hheap hargs).mono ?_
 rintro en w' ⟨ys, ⟨q, i2, h2'⟩, β', S', rfl, hq, k1, k2, k3, k4, k5, k6⟩
 obtain ⟨r1, r2, r3⟩ := hR bs q i2 h2' hq
 have hβ' : β' 0 = some (some (b, Cp)) := by rw [k3 0 (by omega)]; simp [β]
 obtain ⟨cu', sv', m1, m2, m3, m4, m5, m6, m7, m8⟩ := BoxR_cur hβ' (k2.bx 0 _ rfl)
 have hnS' : ¬ S' b := k2.own 0 _ b Cp rfl hβ'
 cases k1 with
 | cons v1 v2 =>
   cases v2
   rename_i y
   refine ⟨y, res q, S', rfl, r1, ?_, ⟨hnS', cu', ty, sv', i2, h2', Cp, m1, m2, m3, m4, m5, m6, m7, r2, r3, m8⟩, k4, fun c hc => ⟨k2.fz c hc, ?_⟩, ⟨k6.os, k6.tape, k6.output, k6.size, fun c hc hd => k6.block c hc fun h => hd ((hin c).1 h)⟩⟩
   ·exact RD_of_VR0 v1
   ·rcases k5 c hc with h | h | h
    ·exact .inl h
    ·exact .inr h
    ·exact absurd ((hin c).1 h ▸ hc) hnS'
def retNQ (fn : Func) (P : Program) (w0 : World) (S0 : Nat → Prop) (bs : List Int) : AQ := fun e a w' => ends e = true ∧ a.defers = [] ∧ ∃ v, (results fn a.tmps).run P w' = .ok v w' ∧ ∃ b S', v = .pointer (some ⟨b, 0, none⟩) ∧ w0.heap.size ≤ b ∧ CurW S' w' b bs ∧ (∀ b, S0 b → S' b) ∧ (∀ b, S' b → b < w'.heap.size ∧ (S0 b ∨ w0.heap.size ≤ b)) ∧ Pres (fun _ => False) w0 w'
theorem newcur_ok {fn : Func} {bs : List Int} {ii h : Int} {ty : TypeId} (hdm : ∀ c, ¬ C.Dm c) (hrv : RetV P f L fn.results.toList [.ptr LCU i 0 []]) (hL : L[i]? = some (some (curBox ty bs ii h))) (h0 : 0 ≤ ii) (h1 : ii ≤ bs.length) : Fin C n (retNQ fn P C.w0 C.S0 bs .ret) f L := by
 intro a w' β' S' hr
 refine ⟨rfl, hr.df, ?_⟩
 obtain ⟨ys, hy, hall⟩ := RetV_run (P := P) hr hrv
 have hrun := results_run (fn := fn) hy
 rw [tupV_eq] at hrun
 cases hall with
 | cons h3 h4 =>
   cases h4
   rename_i y
   obtain ⟨b, Cp, o, l', q1, q2, q3⟩ := VR_ptr (VR_of_VR0 h3)
   have q2 : some ((0 : Nat), LCU) = some (o, l') := q2
   injection q2 with q2; injection q2 with q2 _
   subst q2
   obtain ⟨cu, sv, m1, m2, m3, m4, m5, m6, m7, m8⟩ := BoxR_cur q1 (hr.hp.bx i _ hL)
   have hb := (hr.own i _ b Cp hL q1).resolve_left (hdm b)
   refine ⟨y, hrun, b, S', by simpa using q3, hb, ⟨hr.hp.own i _ b Cp hL q1, cu, ty, sv, ii, h, Cp, m1, m2, m3, m4, m5, m6, m7, h0, h1, m8⟩, hr.s0, fun c hc => ⟨hr.hp.fz c hc, ?_⟩, ⟨hr.pres.os, hr.pres.tape, hr.pres.output, hr.pres.size, fun c hc hd => hr.pres.block c hc (hdm c)⟩⟩
   rcases hr.fz c hc with k | k | k
   ·exact .inl k
   ·exact .inr k
   ·exact absurd k (hdm c)
theorem NewCur_of {k : FuncId} {fn : Func} {c : Code} (hf : P.funcs[k]? = some fn) (hb : fn.body = some c) (hn : fn.ntmps = n) (hlen : 1 ≤ n) (h : ∀ C bs, (∀ b, ¬ C.Dm b) → CT P C → AC P C n c (retNQ fn P C.w0 C.S0 bs) (fr0 [.sl .one (u8s bs)]) []) : NewCur P k := by
 intro w S bs xs hS hT hd
 refine calls_of_wp hf hb ?_
 let C : Cx := ⟨w, fun _ => False, S⟩
 cases hd with
 | cons hd1 hd2 =>
   cases hd2
   rename_i x
   have hrel : Rel C n (fr0 [.sl .one (u8s bs)]) [] { tmps := [x].toArray ++ Array.replicate (fn.ntmps - [x].toArray.size) undef, defers := [] } w (fun _ => none) S := by
    refine ⟨rfl, ?_, fun i => ?_, ⟨?_, ?_, ?_, hS, fun _ _ => rfl, fun i bx q hi => by simp at hi⟩, ?_, fun b hb => .inl hb, fun b hb => hb, Pres.refl _ _⟩
    ·simp; omega
    ·match i with
     | 0 =>
       have : ([x].toArray ++ Array.replicate (fn.ntmps - [x].toArray.size) undef).getD 0 undef = x := by
        rw [Array.getD_eq_getD_getElem?, Array.getElem?_append_left (by simp)]; rfl
       rw [this]
       exact VR0_of_RD hd1
     | i + 1 =>
       show VR _ _ _ .any _
       exact VR_any ..
    ·intro i b h; simp at h
    ·intro i j b bx bx' c c' h; simp at h
    ·intro i bx b c h; simp at h
    ·intro i bx b c h; simp at h
   refine wp_mono (h C bs (fun _ h => h) (CT.start hT fun _ _ h => h) _ w _ S hrel) ?_
   rintro e a w' ⟨hend, h1, v, h2, b, S', rfl, h3⟩
   have fin : a.defers = [] ∧ ∃ v, (results fn a.tmps).run P w' = .ok v w' ∧ ∃ b S', Ending.returned v = .returned (.pointer (some ⟨b, 0, none⟩)) ∧ w.heap.size ≤ b ∧ CurW S' w' b bs ∧ (∀ b, S b → S' b) ∧ (∀ b, S' b → b < w'.heap.size ∧ (S b ∨ w.heap.size ≤ b)) ∧ Pres (fun _ => False) w w' := ⟨h1, _, h2, b, S', rfl, h3⟩
   cases e with
   | normal => exact fin
   | ret => exact fin
   | _ => cases hend
theorem and255 (u : Int) : 0 ≤ IntKind.i64.wrap (BitVec.ofInt IntKind.i64.bits u &&& BitVec.ofInt IntKind.i64.bits 255).toNat ∧ IntKind.i64.wrap (BitVec.ofInt IntKind.i64.bits u &&& BitVec.ofInt IntKind.i64.bits 255).toNat ≤ 255 := by
 have h : (BitVec.ofInt IntKind.i64.bits u &&& BitVec.ofInt IntKind.i64.bits 255).toNat ≤ 255 := by
  rw [BitVec.toNat_and]
  exact Nat.le_trans Nat.and_le_right (by decide)
 rw [wrap_id (by omega) (by omega)]
 omega
end
end Go.Eng
set_option linter.unusedVariables false
set_option linter.unusedSimpArgs false
namespace Go.Eng
theorem u8s_get {xs : List Int} {j : Nat} {u : Int} (h : xs[j]? = some u) : (u8s xs)[j]? = some (.c (.int .u8 u)) := by simp [u8s, h]
section
variable {P : Program} {C : Cx} {n : Nat} {f : Fr} {L : Hp} {dst : Option Tmp} {ty : TypeId} {pos : String} {after : Array Edge} {g : Option (Nat × Bool)}
theorem Ev_len_u8s {t e : TypeId} {x : Operand} {l : Lay} {ks : List Int} (ht : tyElem P t = some e) (hx : ev f x = .d (.sl l (u8s ks))) : Ev P C n ⟨dst, callB .len #[x] #[t], ty, pos, after, g⟩ f L (i64 ks.length) := by
 have := Ev_len_sl (P := P) (C := C) (n := n) (L := L) (dst := dst) (ty := ty) (pos := pos) (after := after) (g := g) ht hx
 rwa [u8s_length] at this
theorem EA_len_u8s {t e : TypeId} {x : Operand} {l : Lay} {ks : List Int} (ht : tyElem P t = some e) (hx : ev f x = .d (.sl l (u8s ks))) : EvA P n ⟨dst, callB .len #[x] #[t], ty, pos, after, g⟩ f L (i64 ks.length) := fun C_ f2_ hf_ L2_ hL_ => Ev_len_u8s ht ((hf_ x (by simp [Op.operands, Call.operands])).trans hx)
end
theorem VwL_one {L : Hp} {src : List (Option Nat)} {x y : D} (h : x = y) : VwL L src [V.d x] [V.d y] := by subst h; exact .cons (.rd .d) .nil
abbrev nmDot : ByteArray := ⟨#[46]⟩
abbrev nmNil : ByteArray := ⟨#[91, 93]⟩
abbrev atom0 (s : ByteArray) : T := .mk 2 s 0 []
def mkList : List T → T
 | [] => atom0 nmNil
 | t :: r => .mk 4 nmDot 0 [t, mkList r]
theorem bulk_atom (s : ByteArray) : bulk (atom0 s) = s.size := by simp [bulk, bulkS, bulkL]
def pw : Nat → Int
 | 0 => 5
 | d + 1 => 5 * pw d
theorem pw_pos : ∀ d, 5 ≤ pw d
 | 0 => Int.le_refl _
 | d + 1 => by have := pw_pos d; simp only [pw]; omega
theorem bulk_few {B : Int} {s : ByteArray} {k m : Int} {ks : List T} (hB : 5 ≤ B) (hs : s.size ≤ 3) (hl : ks.length ≤ 3) (h : ∀ t ∈ ks, bulk t + 2 ≤ B) : bulk (.mk k s m ks) + 2 ≤ 5 * B := by
 simp only [bulk, bulkS_eq]
 match ks, hl, h with
 | [], _, _ => simp only [bulkL, List.length_nil]; omega
 | [a], _, h => have := h a (by simp); simp only [bulkL, List.length_cons, List.length_nil]; omega
 | [a, b], _, h => have := h a (by simp); have := h b (by simp); simp only [bulkL, List.length_cons, List.length_nil]; omega
 | [a, b, c], _, h => have := h a (by simp); have := h b (by simp); have := h c (by simp); simp only [bulkL, List.length_cons, List.length_nil]; omega
 | _ :: _ :: _ :: _ :: _, hl, _ => simp at hl
theorem pw_pred {d : Nat} (h : 0 < d) : pw d = 5 * pw (d - 1) := by
 cases d with
 | zero => omega
 | succ d => rfl
theorem bulk_leaf (k m : Int) (s : ByteArray) : bulk (.mk k s m []) = s.size := by simp [bulk, bulkS, bulkL]
theorem bulk_leaf0 (k m : Int) : bulk (.mk k ⟨#[]⟩ m []) = 0 := by rw [bulk_leaf]; rfl
theorem pw3 : pw 3 = 625 := rfl
mutual
def hgt : T → Nat
 | .mk _ _ _ ks => 1 + hgtL ks
def hgtL : List T → Nat
 | [] => 0
 | t :: r => max (hgt t) (hgtL r)
end
theorem hgtL_le {h : Nat} : ∀ {ks : List T}, (∀ t ∈ ks, hgt t ≤ h) → hgtL ks ≤ h
 | [], _ => Nat.zero_le _
 | t :: r, k => by
   have h1 := k t (by simp)
   have h2 : hgtL r ≤ h := hgtL_le fun u hu => k u (by simp [hu])
   simp only [hgtL]
   omega
theorem hgt_mk {h : Nat} {k m : Int} {s : ByteArray} {ks : List T} (k0 : ∀ t ∈ ks, hgt t ≤ h) : hgt (.mk k s m ks) ≤ h + 1 := by
 have := hgtL_le k0
 simp only [hgt]
 omega
theorem hgt_leaf (k m : Int) (s : ByteArray) : hgt (.mk k s m []) = 1 := rfl
def idxB (g : T → Bool) : List T → Nat → Int
 | [], _ => -1
 | x :: r, j => if g x = true then (j : Int) else idxB g r (j + 1)
def Stc (xs : List T) : Prop := xs.Pairwise fun a b => cmpT a b < 0
end Go.Eng
set_option linter.unusedVariables false
namespace Go.Eng
abbrev cTrue : ByteArray := ⟨#[116, 114, 117, 101, 47, 48]⟩
abbrev cEq : ByteArray := ⟨#[61, 47, 50]⟩
abbrev cPr : ByteArray := ⟨#[112, 114, 47, 50]⟩
def goalsA (t : T) (fs : List (List T → List T × Bool)) (out : List T) : List T × Bool :=
 if predS t = cTrue then (out, true)
 else if predS t = cComma then (match fs with | f :: g :: _ => (if (f out).2 = true then g (f out).1 else ((f out).1, false)) | _ => (out, false))
 else if predS t = cEq then (out ++ [t], true)
 else if predS t = ⟨#[]⟩ ∨ ctlB (predS t) = true then (out, false) else (out ++ [t], true)
mutual
def goalsP : T → List T → List T × Bool
 | .mk k s m ks => goalsA (.mk k s m ks) (goalsPs ks)
def goalsPs : List T → List (List T → List T × Bool)
 | [] => []
 | t :: r => goalsP t :: goalsPs r
end
section
variable {k m : Int} {s : ByteArray} {x y : T} {ks : List T} {out : List T}
end
def goalsIn (t : T) : List T × Bool := if okT t = true ∧ (goalsP t []).2 = true then ((goalsP t []).1, true) else ([], false)
section
variable {k m : Int} {s : ByteArray} {x y : T} {ks : List T}
end
def headB (t : T) : Bool := !decide (predS t = ⟨#[]⟩) && !ctlB (predS t)
def clB (c : Cl) : Bool := okT c.h && okT c.b && headB c.h
def dbB (d : Dbt) : Bool := d.cs.all clB && decide ((d.cs.length : Int) ≤ 120) && decide ((d.op.length : Int) ≤ 40)
def plainB (d : Dbt) : Bool := d.cs.all (fun c => (goalsIn c.b).2 && !decide (predS c.h = cPr)) && dbB d
def flatC1 (c : Cl) : Bool := (goalsIn c.b).2 && flatT c.h && decide (((goalsIn c.b).1.length : Int) ≤ 2) && (goalsIn c.b).1.all (fun g => flatT g && !decide (predS g = cEq)) && (uV [] c.h).all fun n => decide (n ∈ uV [] c.b)
def flatDB (d : Dbt) : Bool := d.cs.all flatC1 && plainB d
def metF : List T → List Int
 | [] => []
 | g :: r => uV [] g ++ metF r
def goalB (g : T) : Bool := flatT g && !decide (predS g = cEq)
end Go.Eng
set_option linter.unusedVariables false
set_option linter.unusedSimpArgs false
namespace Go.Eng
def LCall (P : Program) (k : FuncId) (ds : List D) (e : TypeId) (l : Lay) (xs : List D) (sc : List Value) : Prop :=
 ∀ (w : World) (S : Nat → Prop) (vs : List Value), (∀ b, S b → b < w.heap.size) → Tab P S w → All2 (RD S w) ds vs →
  Calls P k vs.toArray w fun en w' => ∃ y S' o, en = .returned (tupV (y :: sc)) ∧ LB S' w' e l xs y o ∧ (∀ b c, o = some (b, c) → w.heap.size ≤ b) ∧ (∀ b, S b → S' b) ∧ (∀ b, S' b → b < w'.heap.size ∧ (S b ∨ w.heap.size ≤ b)) ∧ Pres (fun _ => False) w w'
def retLQ (fn : Func) (P : Program) (w0 : World) (S0 : Nat → Prop) (e : TypeId) (l : Lay) (xs : List D) (sc : List Value) : AQ := fun en a w' => ends en = true ∧ a.defers = [] ∧ ∃ y S' o, (results fn a.tmps).run P w' = .ok (tupV (y :: sc)) w' ∧ LB S' w' e l xs y o ∧ (∀ b c, o = some (b, c) → w0.heap.size ≤ b) ∧ (∀ b, S0 b → S' b) ∧ (∀ b, S' b → b < w'.heap.size ∧ (S0 b ∨ w0.heap.size ≤ b)) ∧ Pres (fun _ => False) w0 w'
theorem LB.isSl {S : Nat → Prop} {w : World} {e : TypeId} {l : Lay} {xs : List D} {x : Value} {o : Option (Nat × Nat)} (h : LB S w e l xs x o) : x.cells.toList = [x] ∧ isAggV x = false := by
 have hvc := h.vc
 simp only [VC] at hvc
 rcases hvc with ⟨_, q, _⟩ | ⟨_, _, _, q, _⟩ <;> (injection q with q; rw [q]; exact ⟨rfl, rfl⟩)
theorem LB.rd {S : Nat → Prop} {w : World} {e : TypeId} {l : Lay} {xs : List D} {x : Value} {o : Option (Nat × Nat)} (h : LB S w e l xs x o) : RD (fun b => S b ∨ ∃ c, o = some (b, c)) w (.sl l xs) x := by
 obtain ⟨hc, ha⟩ := h.isSl
 refine ⟨?_, ha.symm⟩
 rw [hc]
 have hvc := h.vc
 obtain ⟨hl, hb⟩ := h.bx
 simp only [List.length_map] at hl
 simp only [VC, β1] at hvc
 simp only [DC]
 rcases hvc with ⟨e0, q, q0, q1⟩ | ⟨b, Cp, e0, q, q1⟩
 ·exact ⟨none, 0, 0, q, q1.symm, Nat.le_refl _, Nat.zero_le _, .inl rfl⟩
 ·rcases hb with ⟨e1, _⟩ | ⟨b', Cp', cur, ds, e1, e2, e3, e4, e5, e6⟩
  ·simp only [β1, if_true] at e0 e1
   rw [e0] at e1; cases e1
  ·have e1' := e0.symm.trans e1
   injection e1' with e1'; injection e1' with e1'; injection e1' with e1' e1''
   subst e1'; subst e1''
   refine ⟨some ⟨b, 0, none⟩, xs.length, Cp, by rw [q]; simp, rfl, by omega, hl, .inr ⟨b, 0, ds, rfl, .inr ?_, ?_, ?_⟩⟩
   ·simp at e0
    exact ⟨Cp, e0⟩
   ·have := (VCs_d xs (List.replicate xs.length l) ds).1 (by simpa using e5)
    exact DCs_later (fun _ h => .inl h) (fun _ _ => rfl) _ _ _ this
   ·intro j x hx
    simp [World.cell?, e2, e6 j x hx]
section
variable {P : Program} {C : Cx} {n : Nat} {f : Fr} {L : Hp} {Q : AQ} {ops : Array Oper} {rest : List Oper} {dst : Option Tmp} {ty : TypeId} {pos : String} {after : Array Edge} {a : Act} {w w' : World} {β : Beta} {S S' : Nat → Prop} {i : Nat} {r : List Nat}
theorem LCall.pcall {k : FuncId} {ds : List D} {e : TypeId} {l : Lay} {xs : List D} {sc : List Value} (h : LCall P k ds e l xs sc) (hs : sc.all Value.scalar = true) : PCall P k ds (· = .sl l xs :: sc.map D.c) := fun w S vs hS hT hd =>
 (h w S vs hS hT hd).mono fun en w' ⟨y, S', o, h1, h2, h3, h4, h5, h6⟩ => by
   have hrd := h2.rd
   have hsc : ∀ (sc : List Value), sc.all Value.scalar = true → All2 (RD (fun b => S' b ∨ ∃ c, o = some (b, c)) w') (sc.map D.c) sc := by
    intro sc hs
    induction sc with
    | nil => exact .nil
    | cons x r ih =>
      simp only [List.all_cons, Bool.and_eq_true] at hs
      exact .cons ⟨by rw [cells_scalar hs.1]; unfold DC; exact ⟨rfl, hs.1⟩, by rw [isAgg_scalar hs.1]; rfl⟩ (ih hs.2)
   refine ⟨tupV (y :: sc), _, fun b => S' b ∨ ∃ c, o = some (b, c), h1, rfl, ?_, fun b hb => .inl (h4 b hb), ?_, h6⟩
   ·cases sc with
    | nil => exact hrd
    | cons x r => exact ⟨y :: x :: r, rfl, .cons hrd (hsc _ hs)⟩
   ·rintro b (hb | ⟨c, hb⟩)
    ·exact h5 b hb
    ·refine ⟨?_, .inr (h3 b c hb)⟩
     obtain ⟨_, hx⟩ := h2.bx
     rcases hx with ⟨e1, _⟩ | ⟨b', Cp', cur, ds, e1, e2, _⟩
     ·simp [β1, hb] at e1
     ·simp [β1, hb] at e1
      rw [e1.1]
      exact (Array.getElem?_eq_some_iff.1 e2).1
end
def pairB (t : T) : Bool := decide (t.kind = 4) && decide (t.name = nmDot) && decide (t.kids.length = 2)
inductive Its : T → List T → T → Prop
 | end_ {t : T} : pairB t = false → Its t [] t
 | pair {m : Int} {a b e : T} {r : List T} : Its b r e → Its (.mk 4 nmDot m [a, b]) (a :: r) e
def nilB (t : T) : Bool := decide (t.kind = 2) && decide (t.name = nmNil)
def Itm (t : T) (xs : List T) (b : Bool) : Prop := ∃ r e, Its t r e ∧ b = (okT t && nilB e) ∧ xs = if okT t && nilB e then r else []
theorem Its.bulk {t : T} {r : List T} {e : T} (h : Its t r e) : (r.length : Int) + bulkL r ≤ bulk t := by
 induction h with
 | end_ _ => simp [bulkL, bulk_nn]
 | pair h ih =>
   simp only [Go.Eng.bulk, bulkS_eq, bulkL, List.length_cons, List.length_nil]
   have : (nmDot.size : Int) = 1 := rfl
   omega
theorem Itm.bulk {t : T} {xs : List T} {b : Bool} (h : Itm t xs b) : (xs.length : Int) + bulkL xs ≤ Go.Eng.bulk t := by
 obtain ⟨r, e, h1, _, rfl⟩ := h
 split
 ·exact h1.bulk
 ·simp [bulkL, bulk_nn]
def mkListE (e : T) : List T → T
 | [] => e
 | t :: r => .mk 4 nmDot 0 [t, mkListE e r]
theorem mkListE_drop {e : T} {ks : List T} {j : Nat} {u : T} (h : ks[j]? = some u) : mkListE e (ks.drop j) = .mk 4 nmDot 0 [u, mkListE e (ks.drop (j + 1))] := by rw [drop_get h, mkListE]
theorem bulk_mkListE (e : T) : ∀ ks : List T, bulk (mkListE e ks) = bulk e + 3 * ks.length + bulkL ks
 | [] => by simp [mkListE, bulkL]
 | t :: r => by
   have := bulk_mkListE e r
   have h1 : (nmDot.size : Int) = 1 := rfl
   simp only [mkListE, bulk, bulkS_eq, bulkL, List.length_cons, List.length_nil, h1, this]
   omega
theorem okT_list {t : T} {r : List T} {e : T} (h : Its t r e) : ∀ {d : Int}, lright t d = true → nilB e = true → t = mkList r := by
 induction h with
 | end_ hp =>
   rename_i t
   intro d hw hn
   obtain ⟨k, s, m, ks⟩ := t
   simp only [nilB, Bool.and_eq_true] at hn
   obtain rfl : k = 2 := of_decide_eq_true hn.1
   obtain rfl : s = nmNil := of_decide_eq_true hn.2
   rcases (lright_wf hw).1 with ⟨h, _⟩ | ⟨_, h2, h3⟩ | ⟨h, _⟩ | ⟨h, _⟩
   ·omega
   ·first
     | (obtain ⟨h3, h4⟩ := h3; subst h2; subst h3; rfl)
     | (subst h2; subst h3; rfl)
     | simp_all [mkList]
   ·omega
   ·omega
 | pair hi ih =>
   intro d hw hn
   obtain ⟨h1, h2⟩ := lright_wf hw
   rw [mkList, ← ih (h2 _ (by simp)) hn]
   rcases h1 with ⟨h, _⟩ | ⟨h, _⟩ | ⟨h, _⟩ | ⟨_, h3⟩
   ·omega
   ·omega
   ·omega
   ·first
     | (subst h3; rfl)
     | (obtain ⟨h3, _⟩ := h3; subst h3; rfl)
     | simp_all
theorem Itm.list {t : T} {xs : List T} (h : Itm t xs true) : t = mkList xs := by
 obtain ⟨r, e, h1, h2, h3⟩ := h
 rw [← h2] at h3
 have h4 := h2.symm
 rw [Bool.and_eq_true] at h4
 rw [h3, if_pos rfl]
 exact okT_list h1 (okT_right h4.1) h4.2
abbrev term0 : T := .mk 0 ⟨#[]⟩ 0 []
def Jnd (a b : T) (x y : List T) (b1 b2 : Bool) (o : T) (k : Bool) : Prop := k = (b1 && b2 && okT (mkListE b x)) ∧ o = if k then mkListE b x else term0
theorem Its.len {t : T} {r : List T} {e : T} (h : Its t r e) : r.length + 1 ≤ hgt t ∧ ∀ u ∈ r, hgt u + 1 ≤ hgt t := by
 induction h with
 | end_ _ => rename_i t _; obtain ⟨k, s, m, ks⟩ := t; exact ⟨by simp [hgt], fun u hu => by cases hu⟩
 | pair hi ih =>
   simp only [hgt, hgtL, List.length_cons]
   obtain ⟨h1, h2⟩ := ih
   refine ⟨by omega, fun u hu => ?_⟩
   rcases List.mem_cons.1 hu with rfl | hu
   ·omega
   ·have := h2 u hu; omega
theorem Itm.its {t : T} {xs : List T} (h : Itm t xs true) : okT t = true ∧ ∃ e, Its t xs e ∧ nilB e = true := by
 obtain ⟨r, e, h1, h2, h3⟩ := h
 have h4 := h2.symm
 rw [h2.symm, if_pos rfl] at h3
 rw [Bool.and_eq_true] at h4
 subst h3
 exact ⟨h4.1, e, h1, h4.2⟩
def Drn (ts us : List T) : Prop := ts.length ≤ 6 ∧ us.length ≤ 1 ∧ (∀ t ∈ ts, bulk t ≤ 623 ∧ hgt t ≤ 4) ∧ ∀ u ∈ us, bulk u ≤ 1000
def wrapN : Nat → T → T
 | 0, t => t
 | n + 1, t => .mk 4 ⟨#[115]⟩ 0 [wrapN n t]
theorem bulk_wrap (t : T) : ∀ n : Nat, bulk (wrapN n t) ≤ bulk t + 5 * n
 | 0 => by simp [wrapN]
 | n + 1 => by
   have := bulk_wrap t n
   have h1 : ((⟨#[115]⟩ : ByteArray).size : Int) = 1 := rfl
   simp only [wrapN, bulk, bulkS_eq, bulkL, List.length_cons, List.length_nil, h1]
   omega
theorem wrap_none {t : T} : ∀ {n : Nat}, 0 < n → pairB (wrapN n t) = false ∧ nilB (wrapN n t) = false
 | n + 1, _ => ⟨by rfl, by rfl⟩
end Go.Eng
set_option linter.unusedVariables false
set_option linter.unusedSimpArgs false
namespace Go.Eng
def HCallX {A : Type} (P : Program) (k : FuncId) (args : List V) (Lin : List Box) (stay : Nat) (R : A → Prop) (res : A → List V) (Lout : A → List Box) : Prop :=
 ∀ (w : World) (S : Nat → Prop) (β : Beta) (xs : List Value), Tab P S w → HeapR β S w (someL Lin) → All2 (VR0 β S w) args xs →
  Calls P k xs.toArray w fun en w' => ∃ ys q β' S', en = .returned (tupV ys) ∧ R q ∧ All2 (VR0 β' S' w') (res q) ys ∧ HeapR β' S' w' (someL (Lout q)) ∧ (∀ j, j < stay → β' j = β j) ∧
   (∀ i bx b c, (Lout q)[i]? = some bx → β' i = some (some (b, c)) → inBk Lin β b ∨ w.heap.size ≤ b) ∧
   (∀ b, S b → S' b) ∧ (∀ b, S' b → S b ∨ w.heap.size ≤ b ∨ inBk Lin β b) ∧ Pres (inBk Lin β) w w'
section
variable {P : Program} {C : Cx} {n : Nat} {f : Fr} {L : Hp} {Q : AQ} {ops : Array Oper} {rest : List Oper} {dst : Option Tmp} {ty : TypeId} {pos : String} {after : Array Edge} {a : Act} {w w' : World} {β : Beta} {S S' : Nat → Prop}
theorem HCallX_of {A : Type} {R : A → Prop} {k : FuncId} {fn : Func} {c : Code} {args : List V} {Lin : List Box} {res : A → List V} {Lout : A → List Box} {stay : Nat} (hf : P.funcs[k]? = some fn) (hb : fn.body = some c) (hn : fn.ntmps = n) (hlen : args.length ≤ n) (hst : stay ≤ Lin.length)
 (h : ∀ C0 o, CT P C0 → AC P C0 n c (retRQ fn P C0 o stay R res Lout) (frV args) (inL o stay 0 Lin)) : HCallX P k args Lin stay R res Lout := by
 intro w S β xs hT hh ha
 refine calls_of_wp hf hb ?_
 obtain ⟨o, ho, hrel⟩ := hin_rel hn hlen hst hh ha
 have getL : ∀ (j : Nat) (b0 : Box), Lin[j]? = some b0 → (someL Lin)[j]? = some (some b0) := fun j b0 h => someL_mk h
 have hown : ∀ b, S b → ¬ inBk Lin β b := fun b hb ⟨j, bx, c, h1, h2⟩ => hh.own j bx b c (getL j bx h1) h2 hb
 refine wp_mono (h ⟨w, inBk Lin β, S⟩ o (CT.start hT hown) _ w _ S hrel) ?_
 rintro en a w' ⟨hend, q, hq, h1, x, h2, ys, β', S', M, h3, h4, h5, h6, h7, h8, h9, h10, h11⟩
 subst h3
 have fin : a.defers = [] ∧ ∃ v, (results fn a.tmps).run P w' = .ok v w' ∧ ∃ ys q β' S', Ending.returned v = .returned (tupV ys) ∧ R q ∧ All2 (VR0 β' S' w') (res q) ys ∧ HeapR β' S' w' (someL (Lout q)) ∧ (∀ j, j < stay → β' j = β j) ∧
  (∀ i bx b c, (Lout q)[i]? = some bx → β' i = some (some (b, c)) → inBk Lin β b ∨ w.heap.size ≤ b) ∧
  (∀ b, S b → S' b) ∧ (∀ b, S' b → S b ∨ w.heap.size ≤ b ∨ inBk Lin β b) ∧ Pres (inBk Lin β) w w' :=
  ⟨h1, _, h2, ys, q, β', S', rfl, hq, h4.1, h5, fun j hj => by rw [h6 j hj, ho j (by omega)], h7, h9, h10, h11⟩
 cases en with
 | normal => exact fin
 | ret => exact fin
 | _ => cases hend
theorem VR_ptr2 {l : Lay} {i j k : Nat} {p : List Nat} {x : Value} (hb : β j = β i) (h : VR β S w (.ptr l i k p) x) : VR β S w (.ptr l j k p) x := by
 rcases h with h | ⟨h1, h2⟩
 ·cases h
 ·refine .inr ⟨?_, h2⟩
  simp only [VC] at h1 ⊢
  obtain ⟨b, Cp, o, l', k1, k2, k3⟩ := h1
  exact ⟨b, Cp, o, l', by rw [hb]; exact k1, k2, k3⟩
theorem Rel.slot (hr : Rel C n f L a w β S) {s : Nat} {v v' : V} (hf : f s = v) (h : ∀ x, VR β S w v x → VR β S w v' x) : Rel C n (upd f s v') L a w β S :=
 ⟨hr.df, hr.sz, fun i => by
  by_cases e : i = s
  ·subst e
   rw [upd_self]
   exact h _ (by rw [← hf]; exact hr.fr i)
  ·rw [upd_ne _ _ _ _ e]
   exact hr.fr i, hr.hp, hr.own, hr.fz, hr.s0, hr.pres⟩
theorem AL_hcallX {A : Type} {R : A → Prop} (hT : CT P C) {x : Operand} {args : Array Operand} {ts : Array TypeId} {k : FuncId} {hargs : List V} {Lin : List Box} {Lout : A → List Box} {stay : Nat} {res : A → List V} (src : List Nat) (Lout' : A → List Box) (res' : A → List V)
 (hx : ev f x = .d (.fn k [])) (hc : Callable P k) (hp : HCallX P k hargs Lin stay R res Lout) (ha : VxL (srcOf (src.map some)) (args.toList.map (ev f)) hargs) (hln : src.length = Lin.length) (hnd : nodupS (src.map some) = true) (hB : BxI L (srcOf (src.map some)) 0 Lin) (hst : stay ≤ Lin.length)
 (q : Nat) (hq : L.length = q) (s i0 k0 : Nat) (l0 : Lay) (p0 : List Nat) (hs0 : f s = .ptr l0 i0 k0 p0) (hsrc : src[0]? = some i0) (hs1 : 0 < stay)
 (hO : ∀ z, R z → BxO q L (srcOf (src.map some)) stay 0 (Lout z) (Lout' z)) (hres : ∀ z, R z → VxL (outR q) (res z) (res' z)) (hd : dstOk n dst = true)
 (h : ∀ z, R z → AL P C n ops rest Q (updo (upd f s (.ptr l0 q k0 p0)) dst (retH (res' z))) (dropL src L ++ someL (Lout' z))) : AL P C n ops (⟨dst, callV x args ts, ty, pos, after, none⟩ :: rest) Q f L := by
 subst hq
 intro a w β S hr
 refine wpList_plain rfl fun Kc hK => ?_
 have hv := rel_ev hr x
 rw [hx] at hv
 obtain ⟨cv, c1, c2⟩ := VR_fn hv
 have hcv : cv = [] := by
  have := (DCs_len _ _ _ c2).1
  simpa [Lay.lens] using this
 subst hcv
 unfold Oper.wp
 rw [call_run hc c1, Oper.upon_enter]
 have heq : (args.map a.eval ++ ([] : List Value).toArray) = (args.toList.map a.eval).toArray := by
  show args.map a.eval ++ #[] = _
  rw [Array.append_empty, ← Array.toList_map, Array.toArray_toList]
 rw [heq]
 refine (hp w S (viewB (srcOf (src.map some)) β) _ (hT.tab hr) (hr.hp.view hB (srcOf_nodup hnd) (srcOf_un hln)) (args_VR0 hr args.toList hargs ha fun j i e => viewB_some e)).mono ?_
 rintro en w' ⟨ys, z, β', S', rfl, hz, g1, g2, g3, g4, g6, g7, g8⟩
 obtain ⟨hr', hvx⟩ := hr.hcall hB hln hnd (hO z hz) hst g2 g3 g4 g6 g7 g8
 have h00 : srcOf (src.map some) 0 = some i0 := by
  unfold srcOf
  rw [List.getElem?_map, hsrc]
  rfl
 have hi0 : i0 < L.length := by
  cases hLn : Lin with
  | nil => rw [hLn] at hst; simp at hst; omega
  | cons b0 r0 =>
    obtain ⟨i', b1, k1, k2, _⟩ := BxI_get Lin 0 hB 0 b0 (by rw [hLn]; rfl)
    simp only [Nat.zero_add] at k1
    rw [h00] at k1
    injection k1 with k1
    rw [k1]
    exact lt_of_get k2
 have hbe : afterB L.length β β' L.length = afterB L.length β β' i0 := by
  simp only [afterB]
  rw [if_neg (by omega), if_pos hi0, Nat.sub_self, g3 0 hs1, viewB_some h00]
 have hr2 := hr'.slot hs0 (fun x hx => VR_ptr2 hbe hx)
 refine hK _ _ (h z hz _ _ _ _ (hr2.puto (dstOk_spec hd) (retH_VR ?_)))
 have key : ∀ {vs vs' : List V} {zs : List Value}, VxL (outR L.length) vs vs' → All2 (VR0 β' S' w') vs zs → All2 (VR0 (afterB L.length β β') S' w') vs' zs := by
  intro vs vs' zs h1 h2
  induction h2 generalizing vs' with
  | nil => cases h1; exact .nil
  | cons k1 _ ih => cases h1 with | cons m1 m2 => exact .cons (hvx _ _ _ m1 k1) (ih m2)
 exact key (hres z hz) g1
def OwC (P : Program) (k : FuncId) (ds : List D) (res : List V) (Lout : List Box) : Prop := HCallX P k (ds.map V.d) [] 0 (fun _ : Unit => True) (fun _ => res) (fun _ => Lout)
theorem AL_owc (hT : CT P C) {x : Operand} {args : Array Operand} {ts : Array TypeId} {k : FuncId} {ds : List D} {res : List V} {Lout : List Box} (hx : ev f x = .d (.fn k [])) (hc : Callable P k) (hp : OwC P k ds res Lout) (ha : args.toList.map (ev f) = ds.map V.d)
 (q : Nat) (hq : L.length = q) (res' : List V) (Lout' : List Box) (hO : BxO q L (srcOf []) 0 0 Lout Lout') (hres : VxL (outR q) res res') (hd : dstOk n dst = true)
 (h : AL P C n ops rest Q (updo f dst (retH res')) (L ++ someL Lout')) : AL P C n ops (⟨dst, callV x args ts, ty, pos, after, none⟩ :: rest) Q f L := by
 subst hq
 intro a w β S hr
 refine wpList_plain rfl fun Kc hK => ?_
 have hv := rel_ev hr x
 rw [hx] at hv
 obtain ⟨cv, c1, c2⟩ := VR_fn hv
 have hcv : cv = [] := by
  have := (DCs_len _ _ _ c2).1
  simpa [Lay.lens] using this
 subst hcv
 unfold Oper.wp
 rw [call_run hc c1, Oper.upon_enter]
 have heq : (args.map a.eval ++ ([] : List Value).toArray) = (args.toList.map a.eval).toArray := by
  show args.map a.eval ++ #[] = _
  rw [Array.append_empty, ← Array.toList_map, Array.toArray_toList]
 rw [heq]
 have hB : BxI L (srcOf (([] : List Nat).map some)) 0 [] := BxI_nil
 have hnd : nodupS (([] : List Nat).map some) = true := rfl
 refine (hp w S (viewB (srcOf (([] : List Nat).map some)) β) _ (hT.tab hr) (hr.hp.view hB (srcOf_nodup hnd) (srcOf_un rfl)) (args_VR0 hr args.toList (ds.map V.d) (by rw [ha]; exact VxL_d ds) fun j i e => viewB_some e)).mono ?_
 rintro en w' ⟨ys, z, β', S', rfl, hz, g1, g2, g3, g4, g6, g7, g8⟩
 obtain ⟨hr', hvx⟩ := hr.hcall hB rfl hnd hO (Nat.le_refl 0) g2 g3 g4 g6 g7 g8
 refine hK _ _ (h _ _ _ _ (hr'.puto (dstOk_spec hd) (retH_VR ?_)))
 have key : ∀ {vs vs' : List V} {zs : List Value}, VxL (outR L.length) vs vs' → All2 (VR0 β' S' w') vs zs → All2 (VR0 (afterB L.length β β') S' w') vs' zs := by
  intro vs vs' zs h1 h2
  induction h2 generalizing vs' with
  | nil => cases h1; exact .nil
  | cons k1 _ ih => cases h1 with | cons m1 m2 => exact .cons (hvx _ _ _ m1 k1) (ih m2)
 exact key hres g1
end
end Go.Eng
set_option linter.unusedVariables false
set_option linter.unusedSimpArgs false
namespace Go.Eng
section
variable {P : Program} {C : Cx} {n : Nat} {ops : Array Oper} {qt : List Nat} {Q : AQ} {f : Fr} {L : Hp} {dst : Option Tmp} {op : Op} {ty : TypeId} {pos : String} {after : Array Edge} {i : Nat} {r : List Nat}
theorem DT_qcallL {x : Operand} {args : Array Operand} {ts : Array TypeId} {k : FuncId} {ds : List D} {y : Value} (ho : ops[i]? = some ⟨dst, callV x args ts, ty, pos, after, none⟩) (hx : ev f x = .d (.fn k [])) (hc : Callable P k) (hp : PCall P k ds (· = [.c y]))
 (ha : ∀ C' : Cx, All2 (RdA C' L) (args.toList.map (ev f)) ds) (hd : dstOk n dst = true) (h : DT P n ops qt C Q r (updo f dst (.d (.c y))) L) (hq : quiet qt ⟨dst, callV x args ts, ty, pos, after, none⟩ = false := by rfl) : DT P n ops qt C Q (i :: r) f L := by
 refine .a ho ?_ h
 intro C' hT f' hf L' hL a w β S hr K Qc hK
 have hL' := hL rfl hq
 subst hL'
 have hev := ev_looks hf
 refine runOr_none rfl ?_
 have hx' : ev f' x = .d (.fn k []) := (hev x (by simp [Op.operands, Call.operands])).trans hx
 have ha' : All2 (RdA C' L') (args.toList.map (ev f')) ds := by
  rw [maps_congr fun y hy => hev y (by simp [Op.operands, Call.operands]; exact .inr (by simpa using hy))]
  exact ha C'
 exact qcall_wp hT hr hx' hc hp (RdL_RD hr _ _ ha') hd K Qc fun a' w' β' S' hr' => hK _ _ _ _ hr'
theorem DT_allocS {e : TypeId} {z : Value} {cs : List Value} (ho : ops[i]? = some ⟨dst, .alloc e, ty, pos, after, none⟩) (hz : tyZero P e = some (some z)) (hzc : z.cells.toList = cs) (hd : dstOk n dst = true) (hr : (r.all fun j => (lookM (masks ops (i :: r) []) j).testBit i) = true)
 (h : ∀ C' b, CExt C C' → Blk C' b cs e → C.w0.heap.size ≤ b → DT P n ops qt C' Q r (updo f dst (rawP b 0)) L) : DT P n ops qt C Q (i :: r) f L := by
 refine .e (Z := fun C' v => ∃ b, CExt C C' ∧ Blk C' b cs e ∧ C.w0.heap.size ≤ b ∧ v = rawP b 0) ho rfl ?_ hr (fun C' v ⟨b, h1, _⟩ hT => hT.ext h1) fun C' v ⟨b, h1, h2, h3, h4⟩ => by subst h4; exact h C' b h1 h2 h3
 intro f' _ L' a w β S hr K Qc hK
 refine runOr_none rfl ?_
 have hrun : (execOp a.eval ⟨dst, .alloc e, ty, pos, after, none⟩).run P w = .ok (.value (.pointer (some ⟨w.heap.size, 0, none⟩))) (w.alloc (.cells z.cells e)) := by
  simp [execOp, Instr.alloc, zeroValue_run hz, run_newVar, Result.andThen]
 unfold Oper.wp
 rw [hrun, Oper.upon_value]
 have hpush : (w.alloc (.cells z.cells e)).heap = w.heap.push (.cells z.cells e (0, 0)) := rfl
 have hp : Pres (fun _ => False) w (w.alloc (.cells z.cells e)) := ⟨rfl, rfl, rfl, by rw [hpush]; simp, fun b hb _ => by rw [hpush, Array.getElem?_push, if_neg (by omega)]⟩
 have hr1 := hr.called0 hp
 obtain ⟨e1, e2⟩ := hr1.restart
 have hcl : z.cells = cs.toArray := by rw [← hzc]
 refine hK ⟨w.alloc (.cells z.cells e), boxBlk L' β, S⟩ _ _ _ _ _ ⟨w.heap.size, e1, ⟨?_, fun ⟨j, bx, c, hL, hβ⟩ => ?_, fun hs => ?_⟩, hr.pres.size, rfl⟩ (e2.puto (dstOk_spec hd) (VR_c.2 ⟨rfl, rfl⟩))
 ·show (w.alloc (.cells z.cells e)).heap[w.heap.size]? = _
  rw [hpush, Array.getElem?_push, if_pos rfl, hcl]
 ·have := (hr.hp.bx j bx hL).lt hβ; omega
 ·have := hr.hp.fz _ hs; omega
theorem DT_floatS {F j : Nat} {tl : List Nat} {os os2 : List Oper} {dF : Option Tmp} {opF : Op} {tyF : TypeId} {posF : String} {aF : Array Edge} {v : V} {e : TypeId} {z : Value} {cs : List Value} (σ : List Nat) (hoF : ops[F]? = some ⟨dF, opF, tyF, posF, aF, none⟩) (heF : EvA P n ⟨dF, opF, tyF, posF, aF, none⟩ f L v) (hdF : dstOk n dF = true)
 (ho : ops[i]? = some ⟨dst, .alloc e, ty, pos, after, none⟩) (hz : tyZero P e = some (some z)) (hzc : z.cells.toList = cs) (hd : dstOk n dst = true) (hr : ((j :: tl).all fun k => (lookM (masks ops (i :: j :: tl) []) k).testBit i) = true) (hl : tail2 ops σ F j tl = true) (hos : (j :: tl).map (fun k => ops[k]?) = os.map some) (hos2 : (j :: F :: tl).map (fun k => ops[k]?) = os2.map some)
 (h : ∀ C' b, CExt C C' → Blk C' b cs e → C.w0.heap.size ≤ b → AL P C' n ops os Q (updo (updo f dF v) dst (rawP b 0)) L ∧ AL P C' n ops os2 Q (updo f dst (rawP b 0)) L)
 (hqF : quiet qt ⟨dF, opF, tyF, posF, aF, none⟩ = false := by rfl) (heff : effOp opF = false := by rfl) : DT P n ops qt C Q (F :: i :: j :: tl) f L := by
 refine .t2 (Z := fun C' v => ∃ b, CExt C C' ∧ Blk C' b cs e ∧ C.w0.heap.size ≤ b ∧ v = rawP b 0) σ hoF heff (StA_ev heF hdF hqF) ho rfl ?_ hr (fun C' v ⟨b, h1, _⟩ hT => hT.ext h1) hl hos hos2 fun C' v ⟨b, h1, h2, h3, h4⟩ => by subst h4; exact h C' b h1 h2 h3
 intro f' _ L' a w β S hr K Qc hK
 refine runOr_none rfl ?_
 have hrun : (execOp a.eval ⟨dst, .alloc e, ty, pos, after, none⟩).run P w = .ok (.value (.pointer (some ⟨w.heap.size, 0, none⟩))) (w.alloc (.cells z.cells e)) := by
  simp [execOp, Instr.alloc, zeroValue_run hz, run_newVar, Result.andThen]
 unfold Oper.wp
 rw [hrun, Oper.upon_value]
 have hpush : (w.alloc (.cells z.cells e)).heap = w.heap.push (.cells z.cells e (0, 0)) := rfl
 have hp : Pres (fun _ => False) w (w.alloc (.cells z.cells e)) := ⟨rfl, rfl, rfl, by rw [hpush]; simp, fun b hb _ => by rw [hpush, Array.getElem?_push, if_neg (by omega)]⟩
 have hr1 := hr.called0 hp
 obtain ⟨e1, e2⟩ := hr1.restart
 have hcl : z.cells = cs.toArray := by rw [← hzc]
 refine hK ⟨w.alloc (.cells z.cells e), boxBlk L' β, S⟩ _ _ _ _ _ ⟨w.heap.size, e1, ⟨?_, fun ⟨j, bx, c, hL, hβ⟩ => ?_, fun hs => ?_⟩, hr.pres.size, rfl⟩ (e2.puto (dstOk_spec hd) (VR_c.2 ⟨rfl, rfl⟩))
 ·show (w.alloc (.cells z.cells e)).heap[w.heap.size]? = _
  rw [hpush, Array.getElem?_push, if_pos rfl, hcl]
 ·have := (hr.hp.bx j bx hL).lt hβ; omega
 ·have := hr.hp.fz _ hs; omega
theorem AL_boxraw {C1 : Cx} {rest : List Oper} {e : TypeId} {s b : Nat} {l : Lay} {z : D} {cs : List Value} (hx1 : CExt C C1) (hx : f s = rawP b 0) (hb : Blk C1 b cs e) (hlo : C.w0.heap.size ≤ b) (hzl : cs.length = l.len) (hz : ∀ β S w, VC β S w (.d z) cs) (m : Nat) (hm : L.length = m)
 (h : AL P C n ops rest Q (upd f s (.ptr l m 0 [])) (L ++ [some ⟨e, l, [.d z]⟩])) : AL P C1 n ops rest Q f L := by
 subst hm
 intro a w β S hr
 have hsz := hr.pres.size
 have hlt := hb.lt
 have hw : w.heap[b]? = some (.cells cs.toArray e (0, 0)) := (hr.pres.block b hlt hb.dm).trans hb.hp
 have notS : ¬ S b := fun hs => by
  rcases hr.fz b hs with h3 | h3 | h3
  ·exact hb.s0 h3
  ·omega
  ·exact hb.dm h3
 have notB : ∀ i bx c, L[i]? = some (some bx) → β i ≠ some (some (b, c)) := fun i bx c hL hβ => by
  rcases hr.own i bx b c hL hβ with h3 | h3
  ·exact hb.dm h3
  ·omega
 have hr0 := hr.back hx1
 have hbx : BoxR (setβ β L.length (some (b, 1))) S w L.length ⟨e, l, [.d z]⟩ := by
  refine ⟨by simp [lim], .inr ⟨b, 1, cs.toArray, cs, setβ_self _ _ _, hw, by simpa using hzl, ⟨Nat.le_refl _, by simp [maxLen]⟩, ?_, fun j x hx => by simpa using hx⟩⟩
  simp only [List.length_singleton, List.replicate_one, VCs]
  exact ⟨_, _, cs, [], rfl, (List.append_nil cs).symm, hzl, hz _ _ _, rfl, rfl⟩
 have hfin := hr0.addbox (bx := ⟨e, l, [.d z]⟩) (o := some (b, 1)) rfl hbx (fun b' c' e => by injection e with e; injection e with e1 e2; subst e1; exact notS) (fun b' c' e i bx c hL => by injection e with e; injection e with e1 e2; subst e1; exact notB i bx c hL) (fun b' c' e => by injection e with e; injection e with e1 e2; subst e1; exact .inr hlo)
 have hsv : a.tmps.getD s undef = .pointer (some ⟨b, 0, none⟩) := by
  have := hr.fr s
  rw [hx] at this
  exact (VR_c.1 this).1
 have hfin2 := hfin.updl [(s, .ptr l L.length 0 [])] (fun q hq => by
  rw [List.mem_singleton] at hq
  subst hq
  simp only
  rw [hsv]
  exact VR_ptr0 (setβ_self _ _ _))
 exact h _ _ _ _ hfin2
end
end Go.Eng
set_option linter.unusedVariables false
set_option linter.unusedSimpArgs false
namespace Go.Eng
section
variable {P : Program} {C : Cx} {n : Nat} {f : Fr} {L : Hp} {Q : AQ} {ops : Array Oper} {qt : List Nat} {rest : List Oper} {dst : Option Tmp} {ty : TypeId} {pos : String} {after : Array Edge} {i : Nat} {r : List Nat}
theorem Rel.drew {a : Act} {w : World} {β : Beta} {S : Nat → Prop} (h : Rel C n f L a w β S) : Rel C n f L a w.drew β S := by
 have lat : Later β S w β S w.drew := ⟨fun _ _ h => h, fun _ h => h, fun _ _ => rfl⟩
 exact ⟨h.df, h.sz, fun i => VR_later lat (h.fr i), ⟨fun i b hb => BoxR_later lat (fun _ _ _ => rfl) (h.hp.bx i b hb), h.hp.inj, h.hp.own, h.hp.fz, h.hp.un, h.hp.ad⟩, h.own, h.fz, h.s0, ⟨h.pres.os, h.pres.tape, h.pres.output, h.pres.size, h.pres.block⟩⟩
theorem VR_emp {β : Beta} {S : Nat → Prop} {w : World} {v : Value} (h : VR β S w .emp v) : ∃ A, v = .slice A 0 0 := by
 have := one_cell h (by simp) rfl
 simp only [VC] at this
 simpa using this
theorem St_buildE {t e : TypeId} (l : Lay) (ht : tyElem P t = some e) (hs : tySize P e = some l.len) (hd : dstOk n dst = true) :
 StQ P C n ⟨dst, .buildSlice t 0 #[], ty, pos, after, none⟩ f L (fun f' L' => f' = updo f dst .emp ∧ L' = L) := by
 intro a w β S hr K Qc hK
 have hrun : (execOp a.eval ⟨dst, .buildSlice t 0 #[], ty, pos, after, none⟩).run P w = .ok (.value (.slice (some ⟨w.heap.size, 0, none⟩) 0 0)) (w.alloc (.cells #[] e)) := by
  simp only [execOp, Instr.buildSlice, Sem.run_bind, run_underlying (elem_some ht), Result.andThen, run_sizeOf' hs]
  simp [Instr.fill, run_newRow, Result.andThen]
  rw [Array.eq_empty_of_size_eq_zero (xs := Array.map (fun x => (default : Value)) (Array.range 0)) (by simp)]
 unfold Oper.wp
 rw [hrun, Oper.upon_value]
 have hr' := hr.newRead #[] e
 refine hK _ _ _ _ _ _ (hr'.puto (dstOk_spec hd) ?_) ⟨rfl, rfl⟩
 refine .inr ⟨?_, rfl⟩
 simp only [VC]
 exact ⟨_, rfl⟩
theorem St_appendE {t e : TypeId} {x y : Operand} {l : Lay} {bytes : Nat} {ys : List D} {z : Value} (hx : ev f x = .emp) (hy : ev f y = .d (.sl l ys)) (ht : tyElem P t = some e) (hs : tySize P e = some l.len) (hz : tyZero P e = some (some z)) (hb : tyBytes P e = some bytes) (hb128 : bytes ≤ 128) (hlim : ys.length ≤ lim) (hd : dstOk n dst = true) :
 StQ P C n ⟨dst, callB .append #[x, y] #[t, t], ty, pos, after, none⟩ f L (fun f' L' => f' = updo f dst (.d (.sl l ys)) ∧ L' = L) := by
 intro a w β S hr K Qc hK
 have hv := rel_ev hr x
 rw [hx] at hv
 obtain ⟨A, hxv⟩ := VR_emp hv
 have hyv := rel_ev hr y
 rw [hy] at hyv
 obtain ⟨B, cap, h1, h2, h3, h4⟩ := VR_sl hyv
 obtain ⟨info, hi, hby⟩ := Option.map_eq_some_iff.1 hb
 obtain ⟨info', hi', hzz⟩ := Option.map_eq_some_iff.1 hz
 rw [hi] at hi'
 injection hi' with hi'
 subst hi'
 have hsz : info.size = l.len := by
  obtain ⟨i2, hi2, h2⟩ := Option.map_eq_some_iff.1 hs
  rw [hi] at hi2
  injection hi2 with hi2
  subst hi2
  exact h2
 by_cases h0 : ys.length = 0
 ·have hys : ys = [] := List.eq_nil_of_length_eq_zero h0
  subst hys
  have hrun : (Builtin.append_ #[t, t] ty #[a.eval x, a.eval y]).run P w = .ok (a.eval x) w := by
   have hfc : (Builtin.firstCells info.size 0 (.slice B 0 cap)).run P w = .ok #[] w := by
    cases B <;> simp [Builtin.firstCells, loadCells, loadCellsFrom]
   simp only [List.length_nil] at h1
   rw [hxv, h1]
   cases A <;> simp [Builtin.append_, run_underlying (elem_some ht), sizeOf, typeInfo, hi, Builtin.lenOf, hfc, storeCells, Result.andThen]
  unfold Oper.wp
  rw [append_arg_run hrun, Oper.upon_value]
  refine hK _ _ _ _ _ _ (hr.puto (dstOk_spec hd) ?_) ⟨rfl, rfl⟩
  rw [hxv]
  exact VR_sl_mk (xs := []) (Nat.le_refl _) (Nat.zero_le _) (.inl rfl)
 ·rcases h4 with h4 | ⟨b2, o2, ds, rfl, hbS, hdc, hcells⟩
  ·exact absurd h4 h0
  ·have hdl : ds.length = ys.length * info.size := by
    have := (DCs_len _ _ _ hdc).1
    rw [lens_replicate] at this
    rw [this, hsz]
   have hn0 : 0 < ys.length := Nat.pos_of_ne_zero h0
   have hlim' : ys.length ≤ 1099511627776 := hlim
   have hmul : ys.length * info.bytes ≤ 140737488355328 := by
    have h1 : ys.length * info.bytes ≤ 1099511627776 * 128 := Nat.mul_le_mul hlim' (by omega)
    omega
   have hcl : ∀ j u, ds[j]? = some u → w.cell? ((⟨b2, o2, none⟩ : Addr).add j) = some u := fun j u hu => by rw [Addr.add_lit]; exact hcells j u hu
   have key : ∃ cp zs, ys.length ≤ cp ∧ (Builtin.append_ #[t, t] ty #[a.eval x, a.eval y]).run P w = .ok (.slice (some ⟨w.heap.size, 0, none⟩) ys.length cp) (w.drew.alloc (.cells (ds.toArray ++ zs) e)) := by
    rw [hxv, h1]
    cases A with
    | none => exact ⟨_, _, grownCap_ge _ _ _ _, run_append_nil w t ty e info z (elem_some ht) hi hzz ⟨b2, o2, none⟩ ys.length cap ds hdl hcl hn0 (by omega) (by omega)⟩
    | some a0 =>
      have := run_append_grow (P := P) w t ty e info z (elem_some ht) hi hzz a0 0 0 [] (by simp) (by simp) ⟨b2, o2, none⟩ ys.length cap ds hdl hcl (by omega) (by omega) (by rw [Nat.zero_add]; exact growslice_fits hn0 hmul)
      simp only [Nat.zero_add, List.nil_append, Array.empty_append] at this
      exact ⟨_, _, grownCap_ge _ _ _ _, by simpa using this⟩
   obtain ⟨cp, zs, hcp, hrun⟩ := key
   unfold Oper.wp
   rw [append_arg_run hrun, Oper.upon_value]
   have hr' := hr.drew.newRead (ds.toArray ++ zs) e
   have old : ∀ b, S b → (w.drew.alloc (.cells (ds.toArray ++ zs) e)).heap[b]? = w.heap[b]? := fun b hb => by
    have := hr.hp.fz b hb
    show (w.heap.push _)[b]? = _
    rw [Array.getElem?_push, if_neg (by omega)]
   refine hK _ _ _ _ _ _ (hr'.puto (dstOk_spec hd) (VR_sl_mk hcp hlim (.inr ⟨w.heap.size, 0, ds, rfl, .inr rfl, DCs_later (fun _ h => .inl h) old _ _ _ hdc, fun j u hu => ?_⟩))) ⟨rfl, rfl⟩
   have hh : (w.drew.alloc (.cells (ds.toArray ++ zs) e)).heap[w.heap.size]? = some (.cells (ds.toArray ++ zs) e) := by
    show (w.heap.push _)[w.heap.size]? = _
    simp
   unfold World.cell?
   simp only
   rw [hh]
   have hj := lt_of_get hu
   simp only [Nat.zero_add]
   rw [Array.getElem?_append_left (by simpa using hj)]
   simpa using hu
theorem DT_bE {t e : TypeId} (l : Lay) (ho : ops[i]? = some ⟨dst, .buildSlice t 0 #[], ty, pos, after, none⟩) (ht : tyElem P t = some e) (hs : tySize P e = some l.len) (hd : dstOk n dst = true)
 (h : DT P n ops qt C Q r (updo f dst .emp) L) : DT P n ops qt C Q (i :: r) f L :=
 .a ho (StA_of rfl rfl fun C f' L' hf => St_buildE l ht hs hd) h
theorem DT_appendE {t e : TypeId} {x y : Operand} {l : Lay} {bytes : Nat} {ys : List D} {z : Value} (ho : ops[i]? = some ⟨dst, callB .append #[x, y] #[t, t], ty, pos, after, none⟩) (hx : ev f x = .emp) (hy : ev f y = .d (.sl l ys)) (ht : tyElem P t = some e) (hs : tySize P e = some l.len) (hz : tyZero P e = some (some z)) (hb : tyBytes P e = some bytes) (hb128 : bytes ≤ 128) (hlim : ys.length ≤ lim) (hd : dstOk n dst = true)
 (h : DT P n ops qt C Q r (updo f dst (.d (.sl l ys))) L) : DT P n ops qt C Q (i :: r) f L :=
 .b ho rfl (StB_of rfl fun C f' hf => St_appendE ((hf x (by simp [Op.operands, Call.operands])).trans hx) ((hf y (by simp [Op.operands, Call.operands])).trans hy) ht hs hz hb hb128 hlim hd) h
theorem St_appendO {t e : TypeId} {x y : Operand} {l : Lay} {bytes : Nat} {ys : List D} {z : Value} (hx : ev f x = .emp) (hy : ev f y = .d (.sl l ys)) (hne : 0 < ys.length) (ht : tyElem P t = some e) (hs : tySize P e = some l.len) (hz : tyZero P e = some (some z)) (hzl : z.cells.size = l.len) (hb : tyBytes P e = some bytes) (hb128 : bytes ≤ 128) (hlim : ys.length ≤ lim) (q : Nat) (hq : L.length = q) (hd : dstOk n dst = true) :
 StQ P C n ⟨dst, callB .append #[x, y] #[t, t], ty, pos, after, none⟩ f L (fun f' L' => f' = updo f dst (.ref l q 0 ys.length) ∧ L' = L ++ [some ⟨e, l, ys.map V.d⟩]) := by
 subst hq
 intro a w β S hr K Qc hK
 have hv := rel_ev hr x
 rw [hx] at hv
 obtain ⟨A, hxv⟩ := VR_emp hv
 have hyv := rel_ev hr y
 rw [hy] at hyv
 obtain ⟨B, cap, h1, h2, h3, h4⟩ := VR_sl hyv
 obtain ⟨info, hi, hby⟩ := Option.map_eq_some_iff.1 hb
 obtain ⟨info', hi', hzz⟩ := Option.map_eq_some_iff.1 hz
 rw [hi] at hi'
 injection hi' with hi'
 subst hi'
 have hsz : info.size = l.len := by
  obtain ⟨i2, hi2, h2⟩ := Option.map_eq_some_iff.1 hs
  rw [hi] at hi2
  injection hi2 with hi2
  subst hi2
  exact h2
 rcases h4 with h4 | ⟨b2, o2, ds, rfl, hbS, hdc, hcells⟩
 ·omega
 ·have hdl : ds.length = ys.length * info.size := by
   have := (DCs_len _ _ _ hdc).1
   rw [lens_replicate] at this
   rw [this, hsz]
  have hlim' : ys.length ≤ 1099511627776 := hlim
  have hmul : ys.length * info.bytes ≤ 140737488355328 := by
   have h1 : ys.length * info.bytes ≤ 1099511627776 * 128 := Nat.mul_le_mul hlim' (by omega)
   omega
  have hcl : ∀ j u, ds[j]? = some u → w.cell? ((⟨b2, o2, none⟩ : Addr).add j) = some u := fun j u hu => by rw [Addr.add_lit]; exact hcells j u hu
  have key : ∃ cp, ys.length ≤ cp ∧ cp ≤ maxLen ∧ (Builtin.append_ #[t, t] ty #[a.eval x, a.eval y]).run P w = .ok (.slice (some ⟨w.heap.size, 0, none⟩) ys.length cp) (w.drew.alloc (.cells (ds.toArray ++ Builtin.zeroCells z.cells (cp - ys.length)) e)) := by
   rw [hxv, h1]
   cases A with
   | none => exact ⟨_, grownCap_ge _ _ _ _, grownCap_le_maxLen _ _ _ _ (by simp only [maxLen]; omega), run_append_nil w t ty e info z (elem_some ht) hi hzz ⟨b2, o2, none⟩ ys.length cap ds hdl hcl hne (by omega) (by omega)⟩
   | some a0 =>
     have := run_append_grow (P := P) w t ty e info z (elem_some ht) hi hzz a0 0 0 [] (by simp) (by simp) ⟨b2, o2, none⟩ ys.length cap ds hdl hcl (by omega) (by omega) (by rw [Nat.zero_add]; exact growslice_fits hne hmul)
     simp only [Nat.zero_add, List.nil_append, Array.empty_append] at this
     exact ⟨_, grownCap_ge _ _ _ _, grownCap_le_maxLen _ _ _ _ (by simp only [maxLen]; omega), by simpa using this⟩
  obtain ⟨cp, hcp, hcm, hrun⟩ := key
  unfold Oper.wp
  rw [append_arg_run hrun, Oper.upon_value]
  generalize hcur : ds.toArray ++ Builtin.zeroCells z.cells (cp - ys.length) = cur
  have hcs : cur.size = cp * l.len := by
   rw [← hcur, Array.size_append, List.size_toArray, size_zeroCells, hzl, hdl, hsz, ← Nat.add_mul]
   congr 1
   omega
  have hpush : (w.drew.alloc (.cells cur e)).heap = w.heap.push (.cells cur e (0, 0)) := rfl
  have hp : Pres (fun _ => False) w.drew (w.drew.alloc (.cells cur e)) := ⟨rfl, rfl, rfl, by rw [hpush]; show w.heap.size ≤ _; simp, fun b hb _ => by
   have hb' : b < w.heap.size := hb
   rw [hpush, Array.getElem?_push, if_neg (by omega)]; rfl⟩
  have hr1 := hr.drew.called0 hp
  have hnew : (w.drew.alloc (.cells cur e)).heap[w.heap.size]? = some (.cells cur e (0, 0)) := by rw [hpush, Array.getElem?_push, if_pos rfl]
  have old : ∀ b, S b → (w.drew.alloc (.cells cur e)).heap[b]? = w.heap[b]? := fun b hb => by
   have := hr.hp.fz b hb
   rw [hpush, Array.getElem?_push, if_neg (by omega)]
  have hbx : BoxR (setβ β L.length (some (w.heap.size, cp))) S (w.drew.alloc (.cells cur e)) L.length ⟨e, l, ys.map V.d⟩ := by
   refine ⟨by simpa using hlim, .inr ⟨w.heap.size, cp, cur, ds, setβ_self _ _ _, hnew, hcs, ⟨by simpa using hcp, hcm⟩, ?_, fun j u hu => ?_⟩⟩
   ·simp only [List.length_map]
    exact (VCs_d ys _ ds).2 (DCs_later (fun _ h => h) old _ _ _ hdc)
   ·have hj := lt_of_get hu
    rw [← hcur, Array.getElem?_append_left (by simpa using hj)]
    simpa using hu
  have hr2 := hr1.addbox (bx := ⟨e, l, ys.map V.d⟩) (o := some (w.heap.size, cp)) rfl hbx (fun b c e => by injection e with e; injection e with e1 e2; subst e1; intro hs; have := hr.hp.fz _ hs; omega)
   (fun b c e i bx c' hL hβ => by injection e with e; injection e with e1 e2; subst e1; have := (hr.hp.bx i bx hL).lt hβ; omega)
   (fun b c e => by injection e with e; injection e with e1 e2; subst e1; exact .inr hr.pres.size)
  exact hK _ _ _ _ _ _ (hr2.puto (dstOk_spec hd) (VR_ref_mk (.inr ⟨w.heap.size, cp, setβ_self _ _ _, by simp, by omega⟩))) ⟨rfl, rfl⟩
theorem St_appendEE {t e : TypeId} {x y : Operand} {l : Lay} {bytes : Nat} {z : Value} (hx : ev f x = .emp) (hy : ev f y = .d (.sl l [])) (ht : tyElem P t = some e) (hs : tySize P e = some l.len) (hz : tyZero P e = some (some z)) (hb : tyBytes P e = some bytes) (hd : dstOk n dst = true) :
 StQ P C n ⟨dst, callB .append #[x, y] #[t, t], ty, pos, after, none⟩ f L (fun f' L' => f' = updo f dst .emp ∧ L' = L) := by
 intro a w β S hr K Qc hK
 have hv := rel_ev hr x
 rw [hx] at hv
 obtain ⟨A, hxv⟩ := VR_emp hv
 have hyv := rel_ev hr y
 rw [hy] at hyv
 obtain ⟨B, cap, h1, h2, h3, h4⟩ := VR_sl hyv
 obtain ⟨info, hi, hby⟩ := Option.map_eq_some_iff.1 hb
 have hrun : (Builtin.append_ #[t, t] ty #[a.eval x, a.eval y]).run P w = .ok (a.eval x) w := by
  have hfc : (Builtin.firstCells info.size 0 (.slice B 0 cap)).run P w = .ok #[] w := by
   cases B <;> simp [Builtin.firstCells, loadCells, loadCellsFrom]
  simp only [List.length_nil] at h1
  rw [hxv, h1]
  cases A <;> simp [Builtin.append_, run_underlying (elem_some ht), sizeOf, typeInfo, hi, Builtin.lenOf, hfc, storeCells, Result.andThen]
 unfold Oper.wp
 rw [append_arg_run hrun, Oper.upon_value]
 refine hK _ _ _ _ _ _ (hr.puto (dstOk_spec hd) ?_) ⟨rfl, rfl⟩
 rw [hxv]
 refine .inr ⟨?_, rfl⟩
 simp only [VC]
 exact ⟨_, rfl⟩
theorem DT_appendO {t e : TypeId} {x y : Operand} {l : Lay} {bytes : Nat} {ys : List D} {z : Value} (ho : ops[i]? = some ⟨dst, callB .append #[x, y] #[t, t], ty, pos, after, none⟩) (hx : ev f x = .emp) (hy : ev f y = .d (.sl l ys)) (hne : 0 < ys.length) (ht : tyElem P t = some e) (hs : tySize P e = some l.len) (hz : tyZero P e = some (some z)) (hzl : z.cells.size = l.len) (hb : tyBytes P e = some bytes) (hb128 : bytes ≤ 128) (hlim : ys.length ≤ lim) (q : Nat) (hq : L.length = q) (hd : dstOk n dst = true)
 (h : DT P n ops qt C Q r (updo f dst (.ref l q 0 ys.length)) (L ++ [some ⟨e, l, ys.map V.d⟩])) : DT P n ops qt C Q (i :: r) f L :=
 .b ho rfl (StB_of rfl fun C f' hf => St_appendO ((hf x (by simp [Op.operands, Call.operands])).trans hx) ((hf y (by simp [Op.operands, Call.operands])).trans hy) hne ht hs hz hzl hb hb128 hlim q hq hd) h
theorem DT_appendEE {t e : TypeId} {x y : Operand} {l : Lay} {bytes : Nat} {z : Value} (ho : ops[i]? = some ⟨dst, callB .append #[x, y] #[t, t], ty, pos, after, none⟩) (hx : ev f x = .emp) (hy : ev f y = .d (.sl l [])) (ht : tyElem P t = some e) (hs : tySize P e = some l.len) (hz : tyZero P e = some (some z)) (hb : tyBytes P e = some bytes) (hd : dstOk n dst = true)
 (h : DT P n ops qt C Q r (updo f dst .emp) L) : DT P n ops qt C Q (i :: r) f L :=
 .b ho rfl (StB_of rfl fun C f' hf => St_appendEE ((hf x (by simp [Op.operands, Call.operands])).trans hx) ((hf y (by simp [Op.operands, Call.operands])).trans hy) ht hs hz hb hd) h
theorem AL_appendE {t e : TypeId} {x y : Operand} {l : Lay} {bytes : Nat} {ys : List D} {z : Value} (hx : ev f x = .emp) (hy : ev f y = .d (.sl l ys)) (ht : tyElem P t = some e) (hs : tySize P e = some l.len) (hz : tyZero P e = some (some z)) (hb : tyBytes P e = some bytes) (hb128 : bytes ≤ 128) (hlim : ys.length ≤ lim) (hd : dstOk n dst = true)
 (h : AL P C n ops rest Q (updo f dst (.d (.sl l ys))) L) : AL P C n ops (⟨dst, callB .append #[x, y] #[t, t], ty, pos, after, none⟩ :: rest) Q f L :=
 AL_stepQ rfl (St_appendE hx hy ht hs hz hb hb128 hlim hd) (fun f' L' ⟨h1, h2⟩ => by subst h1; subst h2; exact h)
end
end Go.Eng
set_option linter.unusedVariables false
set_option linter.unusedSimpArgs false
namespace Go.Eng
structure Sg where
 k : Int
 x : ByteArray
 m : Int
 p : Int
 n : Bool
abbrev LSG : Lay := .st [.one, .one, .one, .one, .one]
def injG (s : Sg) : D := .agg [.one, .one, .one, .one, .one] [.c (.int .i64 s.k), .c (.string s.x), .c (.int .i64 s.m), .c (.int .i64 s.p), .c (.bool s.n)]
def injGs (xs : List Sg) : List D := xs.map injG
@[simp] theorem injGs_length (xs : List Sg) : (injGs xs).length = xs.length := by simp [injGs]
theorem injGs_get {xs : List Sg} {j : Nat} {u : Sg} (h : xs[j]? = some u) : (injGs xs)[((j : Nat) : Int).toNat]? = some (injG u) := by simp [injGs, h]
def symS : ByteArray := ⟨#[43, 45, 42, 47, 92, 94, 60, 62, 61, 126, 58, 46, 63, 64, 35, 38, 36]⟩
def symL : List UInt8 → Int → Bool
 | [], _ => false
 | v :: r, n => if (v.toNat : Int) = n then true else symL r n
def symB (n : Int) : Bool := symL (bts symS) n
def smallB (n : Int) : Bool := decide (97 ≤ n) && decide (n ≤ 122)
def greatB (n : Int) : Bool := (decide (65 ≤ n) && decide (n ≤ 90)) || decide (n = 95)
def figB (n : Int) : Bool := decide (48 ≤ n) && decide (n ≤ 57)
def wordB (n : Int) : Bool := smallB n || greatB n || figB n
def blankB (n : Int) : Bool := decide (n = 32) || decide (n = 9) || decide (n = 10)
def runL (p : Int → Bool) : List UInt8 → Nat
 | [] => 0
 | v :: r => if p v.toNat = true then runL p r + 1 else 0
theorem runL_le (p : Int → Bool) : ∀ l : List UInt8, runL p l ≤ l.length
 | [] => Nat.le_refl _
 | v :: r => by
   have := runL_le p r
   simp only [runL, List.length_cons]
   split <;> omega
def byteI (t : ByteArray) (i : Nat) : Int := match (bts t)[i]? with | some v => (v.toNat : Int) | none => -1
theorem byteI_get {t : ByteArray} {i : Nat} {u : UInt8} (h : (bts t)[i]? = some u) : byteI t i = (u.toNat : Int) := by simp only [byteI, h]
def endB (t : ByteArray) (i : Nat) : Bool :=
 decide (byteI t i = 46) && (decide (i = 0) || !symB (byteI t (i - 1))) && (decide (i + 1 = t.size) || blankB (byteI t (i + 1)) || decide (byteI t (i + 1) = 37))
def quoL (t : ByteArray) (i : Nat) : List UInt8 → Nat → Nat
 | [], _ => 0
 | v :: r, j => if (v.toNat : Int) = 39 then (if nameB (t.extract (i + 1) j) = true then j + 1 else 0) else quoL t i r (j + 1)
theorem quoL_le (t : ByteArray) (i : Nat) : ∀ (l : List UInt8) (j : Nat), quoL t i l j = 0 ∨ (j + 1 ≤ quoL t i l j ∧ quoL t i l j ≤ j + l.length)
 | [], _ => .inl rfl
 | v :: r, j => by
   have := quoL_le t i r (j + 1)
   simp only [quoL, List.length_cons]
   split
   ·split <;> omega
   ·omega
def quoM (t : ByteArray) (i : Nat) : Nat := quoL t i ((bts t).drop (i + 1)) (i + 1)
theorem quoM_le {t : ByteArray} {i : Nat} (h : i < t.size) : quoM t i = 0 ∨ (i + 2 ≤ quoM t i ∧ quoM t i ≤ t.size) := by
 have := quoL_le t i ((bts t).drop (i + 1)) (i + 1)
 simp only [List.length_drop, bts_len] at this
 simp only [quoM]
 omega
def figL : List UInt8 → Int → Nat → Int × Nat
 | [], m, j => (m, j)
 | v :: r, m, j => if figB v.toNat = true ∧ m ≤ 999999999 then figL r (10 * m + v.toNat - 48) (j + 1) else (m, j)
def signM (t : ByteArray) (i : Nat) : Sg × Nat :=
 let b := byteI t i
 let x : Sg := ⟨6, t.extract i (i + 1), 0, i, false⟩
 if smallB b = true ∨ greatB b = true then
  let n := i + runL wordB ((bts t).drop i)
  if n - i ≤ 20 then ({ x with k := if greatB b = true then 2 else 1, x := t.extract i n }, n) else (x, i + 1)
 else if figB b = true then
  let q := figL ((bts t).drop i) 0 i
  if q.1 ≤ 999999999 then (⟨3, ⟨#[]⟩, q.1, i, false⟩, q.2) else (x, i + 1)
 else if b = 39 then
  let n := quoM t i
  if 0 < n then (⟨1, t.extract (i + 1) (n - 1), 0, i, false⟩, n) else (x, i + 1)
 else if b = 33 ∨ b = 59 then ({ x with k := 1 }, i + 1)
 else if b = 40 ∨ b = 41 ∨ b = 91 ∨ b = 93 ∨ b = 44 ∨ b = 124 then ({ x with k := 4 }, i + 1)
 else if endB t i = true then ({ x with k := 5 }, i + 1)
 else if symB b = true then
  let n := i + runL symB ((bts t).drop i)
  if n - i ≤ 20 then ({ x with k := 1, x := t.extract i n }, n) else (x, i + 1)
 else (x, i + 1)
section
variable {t : ByteArray} {i : Nat} {b : Int} (hb : byteI t i = b)
include hb
abbrev badSg (t : ByteArray) (i : Nat) : Sg := ⟨6, t.extract i (i + 1), 0, i, false⟩
theorem signM_w (h1 : smallB b = true ∨ greatB b = true) (hn : runL wordB ((bts t).drop i) ≤ 20) : signM t i = (⟨if greatB b = true then 2 else 1, t.extract i (i + runL wordB ((bts t).drop i)), 0, i, false⟩, i + runL wordB ((bts t).drop i)) := by
 simp only [signM, hb]; rw [if_pos h1, if_pos (by omega)]
theorem signM_w0 (h1 : smallB b = true ∨ greatB b = true) (hn : ¬ runL wordB ((bts t).drop i) ≤ 20) : signM t i = (badSg t i, i + 1) := by
 simp only [signM, hb]; rw [if_pos h1, if_neg (by omega)]
theorem signM_f {m : Int} {j : Nat} (h1 : ¬ (smallB b = true ∨ greatB b = true)) (h2 : figB b = true) (hI : figL ((bts t).drop i) 0 i = (m, j)) (hm : m ≤ 999999999) : signM t i = (⟨3, ⟨#[]⟩, m, i, false⟩, j) := by
 simp only [signM, hb, hI]; rw [if_neg h1, if_pos h2, if_pos hm]
theorem signM_f0 {m : Int} {j : Nat} (h1 : ¬ (smallB b = true ∨ greatB b = true)) (h2 : figB b = true) (hI : figL ((bts t).drop i) 0 i = (m, j)) (hm : ¬ m ≤ 999999999) : signM t i = (badSg t i, i + 1) := by
 simp only [signM, hb, hI]; rw [if_neg h1, if_pos h2, if_neg hm]
theorem signM_q (h1 : ¬ (smallB b = true ∨ greatB b = true)) (h2 : ¬ figB b = true) (h3 : b = 39) (hq : 0 < quoM t i) : signM t i = (⟨1, t.extract (i + 1) (quoM t i - 1), 0, i, false⟩, quoM t i) := by
 simp only [signM, hb]; rw [if_neg h1, if_neg h2, if_pos h3, if_pos hq]
theorem signM_q0 (h1 : ¬ (smallB b = true ∨ greatB b = true)) (h2 : ¬ figB b = true) (h3 : b = 39) (hq : ¬ 0 < quoM t i) : signM t i = (badSg t i, i + 1) := by
 simp only [signM, hb]; rw [if_neg h1, if_neg h2, if_pos h3, if_neg hq]
theorem signM_a (h1 : ¬ (smallB b = true ∨ greatB b = true)) (h2 : ¬ figB b = true) (h3 : ¬ b = 39) (h4 : b = 33 ∨ b = 59) : signM t i = (⟨1, t.extract i (i + 1), 0, i, false⟩, i + 1) := by
 simp only [signM, hb]; rw [if_neg h1, if_neg h2, if_neg h3, if_pos h4]
theorem signM_m (h1 : ¬ (smallB b = true ∨ greatB b = true)) (h2 : ¬ figB b = true) (h3 : ¬ b = 39) (h4 : ¬ (b = 33 ∨ b = 59)) (h5 : b = 40 ∨ b = 41 ∨ b = 91 ∨ b = 93 ∨ b = 44 ∨ b = 124) : signM t i = (⟨4, t.extract i (i + 1), 0, i, false⟩, i + 1) := by
 simp only [signM, hb]; rw [if_neg h1, if_neg h2, if_neg h3, if_neg h4, if_pos h5]
theorem signM_e (h1 : ¬ (smallB b = true ∨ greatB b = true)) (h2 : ¬ figB b = true) (h3 : ¬ b = 39) (h4 : ¬ (b = 33 ∨ b = 59)) (h5 : ¬ (b = 40 ∨ b = 41 ∨ b = 91 ∨ b = 93 ∨ b = 44 ∨ b = 124)) (h6 : endB t i = true) : signM t i = (⟨5, t.extract i (i + 1), 0, i, false⟩, i + 1) := by
 simp only [signM, hb]; rw [if_neg h1, if_neg h2, if_neg h3, if_neg h4, if_neg h5, if_pos h6]
theorem signM_s (h1 : ¬ (smallB b = true ∨ greatB b = true)) (h2 : ¬ figB b = true) (h3 : ¬ b = 39) (h4 : ¬ (b = 33 ∨ b = 59)) (h5 : ¬ (b = 40 ∨ b = 41 ∨ b = 91 ∨ b = 93 ∨ b = 44 ∨ b = 124)) (h6 : ¬ endB t i = true) (h7 : symB b = true) {j : Nat} (hI : i + runL symB ((bts t).drop i) = j) (hn : runL symB ((bts t).drop i) ≤ 20) : signM t i = (⟨1, t.extract i j, 0, i, false⟩, j) := by
 simp only [signM, hb]; rw [if_neg h1, if_neg h2, if_neg h3, if_neg h4, if_neg h5, if_neg h6, if_pos h7, if_pos (by omega), hI]
theorem signM_s0 (h1 : ¬ (smallB b = true ∨ greatB b = true)) (h2 : ¬ figB b = true) (h3 : ¬ b = 39) (h4 : ¬ (b = 33 ∨ b = 59)) (h5 : ¬ (b = 40 ∨ b = 41 ∨ b = 91 ∨ b = 93 ∨ b = 44 ∨ b = 124)) (h6 : ¬ endB t i = true) (h7 : symB b = true) (hn : ¬ runL symB ((bts t).drop i) ≤ 20) : signM t i = (badSg t i, i + 1) := by
 simp only [signM, hb]; rw [if_neg h1, if_neg h2, if_neg h3, if_neg h4, if_neg h5, if_neg h6, if_pos h7, if_neg (by omega)]
theorem signM_b (h1 : ¬ (smallB b = true ∨ greatB b = true)) (h2 : ¬ figB b = true) (h3 : ¬ b = 39) (h4 : ¬ (b = 33 ∨ b = 59)) (h5 : ¬ (b = 40 ∨ b = 41 ∨ b = 91 ∨ b = 93 ∨ b = 44 ∨ b = 124)) (h6 : ¬ endB t i = true) (h7 : ¬ symB b = true) : signM t i = (badSg t i, i + 1) := by
 simp only [signM, hb]; rw [if_neg h1, if_neg h2, if_neg h3, if_neg h4, if_neg h5, if_neg h6, if_neg h7]
end
theorem sign_ret {t : ByteArray} {i : Nat} {x : Sg} {n : Nat} (h : signM t i = (x, n)) : [injG x, .c (.int .i64 ((n : Nat) : Int))] = [injG (signM t i).1, .c (.int .i64 (((signM t i).2 : Nat) : Int))] := by rw [h]
def signsL (t : ByteArray) : Nat → Nat → List Sg
 | 0, _ => []
 | n + 1, i =>
   if t.size ≤ i then []
   else if blankB (byteI t i) = true then signsL t n (i + 1)
   else if byteI t i = 37 then signsL t n (i + runL (fun v => !decide (v = 10)) ((bts t).drop i))
   else
    let q := signM t i
    { q.1 with n := decide (q.2 < t.size) && decide (byteI t q.2 = 40) } :: signsL t n q.2
def signsM (t : ByteArray) : List Sg := signsL t (t.size + 1) 0
structure Rs where
 i : Nat
 bad : Bool
 deep : Int
 ns : List ByteArray
def isM (xs : List Sg) (s : Rs) (k : Int) (w : ByteArray) : Bool :=
 !s.bad && (match xs[s.i]? with | some g => decide (g.k = k) && (decide (w = ⟨#[]⟩) || decide (g.x = w)) | none => false)
def markM (xs : List Sg) (s : Rs) (w : ByteArray) : Rs × Bool := if isM xs s 4 w = true then ({ s with i := s.i + 1 }, true) else (s, false)
def wantsM (xs : List Sg) (s : Rs) (w : ByteArray) : Rs := if isM xs s 4 w = true then { s with i := s.i + 1 } else { s with bad := true }
def findV : List ByteArray → ByteArray → Nat → Option Nat
 | [], _, _ => none
 | a :: r, w, j => if a = w then some j else findV r w (j + 1)
def varM (s : Rs) (w : ByteArray) : Rs × T :=
 match (if w = ⟨#[95]⟩ then none else findV s.ns w 0) with
 | some j => (s, .mk 1 ⟨#[]⟩ j [])
 | none => ({ s with ns := s.ns ++ [w] }, .mk 1 ⟨#[]⟩ s.ns.length [])
structure Opv where
 x : ByteArray
 pr : Int
 l : Int
 r : Int
def injO (o : Opv) : D := .agg [.one, .one, .one, .one] [.c (.string o.x), .c (.int .i64 o.pr), .c (.int .i64 o.l), .c (.int .i64 o.r)]
abbrev op0 : Opv := ⟨⟨#[]⟩, 0, 0, 0⟩
def betw (x : ByteArray) : Opv × Bool :=
 if x = ⟨#[58, 45]⟩ ∨ x = ⟨#[45, 45, 62]⟩ then (⟨x, 1200, 1199, 1199⟩, true)
 else if x = ⟨#[59]⟩ then (⟨x, 1100, 1099, 1100⟩, true)
 else if x = ⟨#[45, 62]⟩ then (⟨x, 1050, 1049, 1050⟩, true)
 else if x = ⟨#[44]⟩ then (⟨x, 1000, 999, 1000⟩, true)
 else if x = ⟨#[61]⟩ ∨ x = ⟨#[92, 61]⟩ ∨ x = ⟨#[61, 61]⟩ ∨ x = ⟨#[105, 115]⟩ ∨ x = ⟨#[60]⟩ ∨ x = ⟨#[61, 58, 61]⟩ then (⟨x, 700, 699, 699⟩, true)
 else if x = ⟨#[43]⟩ ∨ x = ⟨#[45]⟩ then (⟨x, 500, 500, 499⟩, true)
 else if x = ⟨#[42]⟩ ∨ x = ⟨#[47, 47]⟩ then (⟨x, 400, 400, 399⟩, true)
 else (op0, false)
def preO (x : ByteArray) : Opv × Bool :=
 if x = ⟨#[58, 45]⟩ then (⟨x, 1200, 0, 1199⟩, true)
 else if x = ⟨#[92, 43]⟩ then (⟨x, 900, 0, 900⟩, true)
 else if x = ⟨#[45]⟩ then (⟨x, 200, 0, 200⟩, true)
 else (op0, false)
def sg0 : Sg := ⟨0, ⟨#[]⟩, 0, 0, false⟩
def sgAt (xs : List Sg) (i : Nat) : Sg := match xs[i]? with | some g => g | none => sg0
def closeB (xs : List Sg) (s : Rs) : Bool := match xs[s.i + 1]? with | some g => decide (g.k = 4) && decide (g.x = ⟨#[41]⟩) | none => false
section
variable (xs : List Sg) (tm : Int → Rs → Rs × T)
def someM : Nat → Rs → List T → Rs × List T
 | 0, s, ks => (s, ks)
 | n + 1, s, ks =>
   if s.bad = true then (s, ks) else
   let a := tm 999 s
   if 5 ≤ ks.length then ({ a.1 with bad := true }, ks) else
   if isM xs a.1 4 ⟨#[41]⟩ = true then ({ a.1 with i := a.1.i + 1 }, ks ++ [a.2]) else someM n (wantsM xs a.1 ⟨#[44]⟩) (ks ++ [a.2])
def rowL : Nat → Rs → List T → Rs × List T × T
 | 0, s, ks => (s, ks, atom0 nmNil)
 | n + 1, s, ks =>
   if s.bad = true then (s, ks, atom0 nmNil) else
   let a := tm 999 s
   if isM xs a.1 4 ⟨#[93]⟩ = true then ({ a.1 with i := a.1.i + 1 }, ks ++ [a.2], atom0 nmNil) else
   if isM xs a.1 4 ⟨#[124]⟩ = true then
    let d := tm 999 { a.1 with i := a.1.i + 1 }
    (wantsM xs d.1 ⟨#[93]⟩, ks ++ [a.2], d.2)
   else rowL n (wantsM xs a.1 ⟨#[44]⟩) (ks ++ [a.2])
def rowM (s : Rs) : Rs × T :=
 if isM xs s 4 ⟨#[93]⟩ = true then ({ s with i := s.i + 1 }, atom0 nmNil) else
 let q := rowL xs tm (xs.length + 3) s []
 (q.1, mkListE q.2.2 q.2.1)
def roundM (s : Rs) : Rs × T :=
 if isM xs s 1 ⟨#[]⟩ = true ∧ closeB xs s = true then ({ s with i := s.i + 2 }, atom0 (sgAt xs s.i).x) else
 let a := tm 1200 s
 (wantsM xs a.1 ⟨#[41]⟩, a.2)
def nearM (s : Rs) : Bool := match xs[s.i + 1]?, xs[s.i]? with
 | some g, some h => decide (g.k = 3) && decide (g.p = h.p + 1)
 | _, _ => false
def atomM (most : Int) (s : Rs) : Rs × T × Int :=
 let g := sgAt xs s.i
 if g.n = true then
  let q := someM xs tm (xs.length + 3) { s with i := s.i + 2 } []
  (q.1, .mk 4 g.x 0 q.2, 0)
 else if g.x = ⟨#[45]⟩ ∧ nearM xs s = true then ({ s with i := s.i + 2 }, .mk 3 ⟨#[]⟩ (-(sgAt xs (s.i + 1)).m) [], 0)
 else if (preO g.x).2 = true ∧ (preO g.x).1.pr ≤ most then
  let a := tm (preO g.x).1.r { s with i := s.i + 1 }
  (a.1, .mk 4 g.x 0 [a.2], (preO g.x).1.pr)
 else if (preO g.x).2 = true ∨ (betw g.x).2 = true then ({ s with bad := true }, term0, 0)
 else ({ s with i := s.i + 1 }, atom0 g.x, 0)
def primM (most : Int) (s : Rs) : Rs × T × Int :=
 if isM xs s 1 ⟨#[]⟩ = true then atomM xs tm most s
 else if isM xs s 4 ⟨#[40]⟩ = true then
  let a := roundM xs tm { s with i := s.i + 1 }
  (a.1, a.2, 0)
 else if isM xs s 4 ⟨#[91]⟩ = true then
  let a := rowM xs tm { s with i := s.i + 1 }
  (a.1, a.2, 0)
 else if isM xs s 3 ⟨#[]⟩ = true then ({ s with i := s.i + 1 }, .mk 3 ⟨#[]⟩ (sgAt xs s.i).m [], 0)
 else if isM xs s 2 ⟨#[]⟩ = true then
  let a := varM { s with i := s.i + 1 } (sgAt xs s.i).x
  (a.1, a.2, 0)
 else ({ s with bad := true }, term0, 0)
def nextM (s : Rs) : Opv × Bool :=
 if isM xs s 4 ⟨#[44]⟩ = true then betw ⟨#[44]⟩
 else if isM xs s 1 ⟨#[]⟩ = true ∧ (sgAt xs s.i).n = false then betw (sgAt xs s.i).x
 else (op0, false)
def tailM (most : Int) : Nat → Rs → T → Int → Rs × T
 | 0, s, t, _ => (s, t)
 | n + 1, s, t, pr =>
   if s.bad = true then (s, t) else
   let o := nextM xs s
   if o.2 = false ∨ most < o.1.pr ∨ o.1.l < pr then (s, t) else
   let a := tm o.1.r { s with i := s.i + 1 }
   tailM most n a.1 (.mk 4 o.1.x 0 [t, a.2]) o.1.pr
end
def termM (xs : List Sg) : Nat → Int → Rs → Rs × T
 | 0, _, s => (s, term0)
 | n + 1, most, s =>
   if s.bad = true ∨ 130 < s.deep + 1 then ({ s with bad := true, deep := s.deep + 1 }, term0) else
   let a := primM xs (termM xs n) most { s with deep := s.deep + 1 }
   let b := tailM xs (termM xs n) most (xs.length + 3) a.1 a.2.1 a.2.2
   ({ b.1 with deep := b.1.deep - 1 }, b.2)
def behindL : List Sg → Nat → Nat
 | [], j => j
 | g :: r, j => if g.k = 5 then j + 1 else behindL r (j + 1)
def readM (t : ByteArray) : T × Bool :=
 let xs := signsM t
 if xs.length = 0 then (term0, false) else
 let a := termM xs (xs.length + 3) 1200 ⟨0, false, 0, []⟩
 if isM xs a.1 5 ⟨#[]⟩ = true ∧ okT a.2 = true ∧ a.1.i + 1 = xs.length then (a.2, true) else (term0, false)
end Go.Eng
set_option linter.unusedVariables false
set_option linter.unusedSimpArgs false
namespace Go.Eng
structure Okr (xs : List Sg) (d : Int) (s : Rs) : Prop where
 hi : s.i ≤ xs.length + 1
 hn : s.ns.length ≤ s.i
 d0 : d ≤ s.deep
 d1 : s.deep ≤ 131
 de : s.bad = false → s.deep = d
structure Prog (xs : List Sg) (d : Int) (s z : Rs) (b : Int) : Prop where
 ok : Okr xs d z
 le : s.i ≤ z.i
 lt : z.bad = false → s.i < z.i
 bk : b ≤ 64 * ((z.i : Int) - s.i)
variable {xs : List Sg} {d : Int} {s z : Rs}
theorem Okr.adv (h : Okr xs d s) (k : Nat) (hk : s.i + k ≤ xs.length + 1) : Okr xs d { s with i := s.i + k } :=
 ⟨hk, by have := h.hn; show s.ns.length ≤ s.i + k; omega, h.d0, h.d1, h.de⟩
theorem Okr.spoil (h : Okr xs d s) : Okr xs d { s with bad := true } := ⟨h.hi, h.hn, h.d0, h.d1, fun e => by cases e⟩
theorem isM_lt {k : Int} {w : ByteArray} (h : isM xs s k w = true) : s.bad = false ∧ s.i < xs.length ∧ ∃ g, xs[s.i]? = some g ∧ g.k = k := by
 simp only [isM, Bool.and_eq_true, Bool.not_eq_true'] at h
 obtain ⟨h1, h2⟩ := h
 refine ⟨h1, ?_⟩
 cases e : xs[s.i]? with
 | none => rw [e] at h2; simp at h2
 | some g =>
   rw [e] at h2
   simp only [Bool.and_eq_true, decide_eq_true_eq] at h2
   exact ⟨lt_of_get e, g, rfl, h2.1⟩
theorem wants_ok (w : ByteArray) (h : Okr xs d s) : Okr xs d (wantsM xs s w) ∧ s.i ≤ (wantsM xs s w).i ∧ (wantsM xs s w).i ≤ s.i + 1 ∧ ((wantsM xs s w).bad = false → s.bad = false ∧ (wantsM xs s w).i = s.i + 1) := by
 unfold wantsM
 split
 ·rename_i hm
  have := isM_lt hm
  exact ⟨h.adv 1 (by omega), by show s.i ≤ s.i + 1; omega, Nat.le_refl _, fun _ => ⟨this.1, rfl⟩⟩
 ·exact ⟨h.spoil, Nat.le_refl _, by show s.i ≤ s.i + 1; omega, fun e => by cases e⟩
def TmOk (xs : List Sg) (d : Int) (n : Nat) (tm : Int → Rs → Rs × T) : Prop :=
 ∀ most s, Okr xs d s → s.bad = false → xs.length + 2 ≤ n + s.i → Prog xs d s (tm most s).1 (bulk (tm most s).2)
section
variable {n : Nat} {tm : Int → Rs → Rs × T} (hx : ∀ g ∈ xs, g.x.size ≤ 32) (ht : TmOk xs d n tm)
include ht
theorem some_ok : ∀ (m : Nat) (s : Rs) (ks : List T), Okr xs d s → (s.bad = false → xs.length + 2 ≤ n + s.i) → ks.length ≤ 5 →
 Okr xs d (someM xs tm m s ks).1 ∧ s.i ≤ (someM xs tm m s ks).1.i ∧ bulkL (someM xs tm m s ks).2 ≤ bulkL ks + 64 * (((someM xs tm m s ks).1.i : Int) - s.i) ∧ (someM xs tm m s ks).2.length ≤ 5
 | 0, s, ks, h, hn, hl => ⟨h, Nat.le_refl _, by simp only [someM]; omega, hl⟩
 | m + 1, s, ks, h, hn, hl => by
   cases hb : s.bad with
   | true => simp only [someM, hb, if_true]; exact ⟨h, Nat.le_refl _, by omega, hl⟩
   | false =>
     have ha := ht 999 s h hb (hn hb)
     have hle := ha.le
     have hbk := ha.bk
     simp only [someM, hb, Bool.false_eq_true, if_false]
     split
     ·have := bulk_nn (tm 999 s).2
      exact ⟨ha.ok.spoil, hle, by show bulkL ks ≤ bulkL ks + 64 * (((tm 999 s).1.i : Int) - s.i); omega, hl⟩
     ·have hk : bulkL (ks ++ [(tm 999 s).2]) = bulkL ks + bulk (tm 999 s).2 := by
       have e := bulkL_take (ks := ks ++ [(tm 999 s).2]) (i := ks.length) (u := (tm 999 s).2) (by simp)
       rw [List.take_of_length_le (by simp)] at e
       rw [e]; simp
      split
      ·rename_i hm
       have := isM_lt hm
       exact ⟨ha.ok.adv 1 (by omega), by show s.i ≤ (tm 999 s).1.i + 1; omega, by show _ ≤ _ + 64 * ((((tm 999 s).1.i + 1 : Nat) : Int) - s.i); rw [hk]; push_cast; omega, by simp; omega⟩
      ·obtain ⟨w1, w2, w3, w4⟩ := wants_ok ⟨#[44]⟩ ha.ok
       obtain ⟨r1, r2, r3, r4⟩ := some_ok m (wantsM xs (tm 999 s).1 ⟨#[44]⟩) (ks ++ [(tm 999 s).2]) w1 (fun e => by have := hn hb; have := (w4 e).2; omega) (by simp; omega)
       exact ⟨r1, by omega, by rw [hk] at r3; omega, r4⟩
theorem rowL_ok : ∀ (m : Nat) (s : Rs) (ks : List T), Okr xs d s → (s.bad = false → xs.length + 2 ≤ n + s.i) →
 Okr xs d (rowL xs tm m s ks).1 ∧ s.i ≤ (rowL xs tm m s ks).1.i ∧ bulk (mkListE (rowL xs tm m s ks).2.2 (rowL xs tm m s ks).2.1) ≤ 3 * ks.length + bulkL ks + 64 * (((rowL xs tm m s ks).1.i : Int) - s.i) + 8
 | 0, s, ks, h, hn => ⟨h, Nat.le_refl _, by simp only [rowL]; rw [bulk_mkListE, bulk_atom]; show (2 : Int) + _ + _ ≤ _; omega⟩
 | m + 1, s, ks, h, hn => by
   cases hb : s.bad with
   | true => simp only [rowL, hb, if_true]; exact ⟨h, Nat.le_refl _, by rw [bulk_mkListE, bulk_atom]; show (2 : Int) + _ + _ ≤ _; omega⟩
   | false =>
     have ha := ht 999 s h hb (hn hb)
     have hle := ha.le
     have hbk := ha.bk
     have hk : bulkL (ks ++ [(tm 999 s).2]) = bulkL ks + bulk (tm 999 s).2 := by
      have e := bulkL_take (ks := ks ++ [(tm 999 s).2]) (i := ks.length) (u := (tm 999 s).2) (by simp)
      rw [List.take_of_length_le (by simp)] at e
      rw [e]; simp
     simp only [rowL, hb, Bool.false_eq_true, if_false]
     split
     ·rename_i hm
      have := isM_lt hm
      refine ⟨ha.ok.adv 1 (by omega), by show s.i ≤ (tm 999 s).1.i + 1; omega, ?_⟩
      show _ ≤ _ + 64 * ((((tm 999 s).1.i + 1 : Nat) : Int) - s.i) + 8
      rw [bulk_mkListE, bulk_atom, hk]
      show (2 : Int) + _ + _ ≤ _
      rw [List.length_append]
      push_cast
      simp only [List.length_cons, List.length_nil]
      omega
     ·split
      ·rename_i hm
       have hl := isM_lt hm
       have h2 := ht 999 { (tm 999 s).1 with i := (tm 999 s).1.i + 1 } (ha.ok.adv 1 (by omega)) hl.1 (by have := hn hb; show xs.length + 2 ≤ n + ((tm 999 s).1.i + 1); omega)
       have h2l := h2.le
       have h2b := h2.bk
       obtain ⟨w1, w2, w3, w4⟩ := wants_ok ⟨#[93]⟩ h2.ok
       refine ⟨w1, ?_, ?_⟩
       ·simp only at h2l w2 ⊢; omega
       ·simp only at h2l w2 h2b ⊢
        rw [bulk_mkListE, hk]
        rw [List.length_append]
        push_cast
        push_cast at h2b
        simp only [List.length_cons, List.length_nil]
        omega
      ·obtain ⟨w1, w2, w3, w4⟩ := wants_ok ⟨#[44]⟩ ha.ok
       cases hwb : (wantsM xs (tm 999 s).1 ⟨#[44]⟩).bad with
       | true =>
         have hs : ∀ k, rowL xs tm k (wantsM xs (tm 999 s).1 ⟨#[44]⟩) (ks ++ [(tm 999 s).2]) = (wantsM xs (tm 999 s).1 ⟨#[44]⟩, ks ++ [(tm 999 s).2], atom0 nmNil) := by
          intro k
          cases k <;> simp [rowL, hwb]
         rw [hs]
         refine ⟨w1, by show s.i ≤ (wantsM xs (tm 999 s).1 ⟨#[44]⟩).i; omega, ?_⟩
         show bulk (mkListE (atom0 nmNil) (ks ++ [(tm 999 s).2])) ≤ _ + 64 * (((wantsM xs (tm 999 s).1 ⟨#[44]⟩).i : Int) - s.i) + 8
         rw [bulk_mkListE, bulk_atom, hk]
         show (2 : Int) + _ + _ ≤ _
         rw [List.length_append]
         push_cast
         simp only [List.length_cons, List.length_nil]
         omega
       | false =>
         have hw := w4 hwb
         obtain ⟨r1, r2, r3⟩ := rowL_ok m (wantsM xs (tm 999 s).1 ⟨#[44]⟩) (ks ++ [(tm 999 s).2]) w1 (fun e => by have := hn hb; omega)
         refine ⟨r1, by omega, ?_⟩
         rw [hk, List.length_append] at r3
         push_cast at r3
         simp only [List.length_cons, List.length_nil] at r3
         have := hw.2
         omega
theorem row_ok (h : Okr xs d s) (hb : s.bad = false) (hn : xs.length + 2 ≤ n + s.i) : Okr xs d (rowM xs tm s).1 ∧ s.i ≤ (rowM xs tm s).1.i ∧ bulk (rowM xs tm s).2 ≤ 64 * (((rowM xs tm s).1.i : Int) - s.i) + 8 := by
 simp only [rowM]
 split
 ·rename_i hm
  have := isM_lt hm
  refine ⟨h.adv 1 (by omega), by show s.i ≤ s.i + 1; omega, ?_⟩
  rw [bulk_atom]
  show (2 : Int) ≤ 64 * (((s.i + 1 : Nat) : Int) - s.i) + 8
  push_cast
  omega
 ·obtain ⟨r1, r2, r3⟩ := rowL_ok ht (xs.length + 3) s [] h (fun _ => hn)
  exact ⟨r1, r2, by simpa [bulkL] using r3⟩
include hx
omit ht in
theorem sgAt_size (i : Nat) : (sgAt xs i).x.size ≤ 32 := by
 unfold sgAt
 split
 ·rename_i g e
  exact hx g (List.mem_of_getElem? e)
 ·show 0 ≤ 32; omega
theorem round_ok (h : Okr xs d s) (hb : s.bad = false) (hn : xs.length + 2 ≤ n + s.i) : Okr xs d (roundM xs tm s).1 ∧ s.i ≤ (roundM xs tm s).1.i ∧ bulk (roundM xs tm s).2 ≤ 64 * (((roundM xs tm s).1.i : Int) - s.i) := by
 simp only [roundM]
 split
 ·rename_i hm
  have := isM_lt hm.1
  have hz := sgAt_size hx s.i
  refine ⟨h.adv 2 (by have := hm.2; unfold closeB at this; cases e : xs[s.i + 1]? with | none => rw [e] at this; cases this | some g => have := lt_of_get e; omega), by show s.i ≤ s.i + 2; omega, ?_⟩
  rw [bulk_atom]
  show _ ≤ 64 * (((s.i + 2 : Nat) : Int) - s.i)
  push_cast
  omega
 ·have ha := ht 1200 s h hb hn
  have hle := ha.le
  have hbk := ha.bk
  obtain ⟨w1, w2, w3, w4⟩ := wants_ok ⟨#[41]⟩ ha.ok
  exact ⟨w1, by show s.i ≤ (wantsM xs (tm 1200 s).1 ⟨#[41]⟩).i; omega, by show bulk (tm 1200 s).2 ≤ 64 * (((wantsM xs (tm 1200 s).1 ⟨#[41]⟩).i : Int) - s.i); omega⟩
theorem atom_ok (most : Int) (h : Okr xs d s) (hm : isM xs s 1 ⟨#[]⟩ = true) (hn : xs.length + 2 ≤ n + 1 + s.i) : Prog xs d s (atomM xs tm most s).1 (bulk (atomM xs tm most s).2.1) := by
 obtain ⟨hb, hi, g, hg, hk⟩ := isM_lt hm
 have hz := sgAt_size hx s.i
 simp only [atomM]
 split
 ·obtain ⟨r1, r2, r3, r4⟩ := some_ok ht (xs.length + 3) { s with i := s.i + 2 } [] (h.adv 2 (by omega)) (fun _ => by show xs.length + 2 ≤ n + (s.i + 2); omega) (by simp)
  simp only [bulkL] at r2 r3
  refine ⟨r1, by show s.i ≤ (someM xs tm (xs.length + 3) { s with i := s.i + 2 } []).1.i; omega, fun _ => by show s.i < (someM xs tm (xs.length + 3) { s with i := s.i + 2 } []).1.i; omega, ?_⟩
  simp only [bulk, bulkS_eq]
  push_cast at r3 ⊢
  omega
 ·split
  ·rename_i hq
   have : s.i + 1 < xs.length := by
    have := hq.2
    unfold nearM at this
    split at this
    ·rename_i e _; exact lt_of_get e
    ·cases this
   refine ⟨h.adv 2 (by omega), by show s.i ≤ s.i + 2; omega, fun _ => by show s.i < s.i + 2; omega, ?_⟩
   simp only [bulk, bulkS_eq, bulkL]
   show ((0 : Nat) : Int) + (_ + 0) ≤ 64 * (((s.i + 2 : Nat) : Int) - s.i)
   push_cast
   simp
   omega
  ·split
   ·have ha := ht (preO (sgAt xs s.i).x).1.r { s with i := s.i + 1 } (h.adv 1 (by omega)) hb (by show xs.length + 2 ≤ n + (s.i + 1); omega)
    have hle := ha.le
    have hbk := ha.bk
    simp only at hle hbk ⊢
    refine ⟨ha.ok, by (first | omega | (simp only; omega)), fun e => by (first | omega | (simp only; omega)), ?_⟩
    simp only [bulk, bulkS_eq, bulkL]
    push_cast at hbk ⊢
    simp
    omega
   ·split
    ·exact ⟨h.spoil, Nat.le_refl _, fun e => (by cases e), (by simp [bulk, bulkS_eq, bulkL]; rfl)⟩
    ·refine ⟨h.adv 1 (by omega), by show s.i ≤ s.i + 1; omega, fun _ => by show s.i < s.i + 1; omega, ?_⟩
     rw [bulk_atom]
     show _ ≤ 64 * (((s.i + 1 : Nat) : Int) - s.i)
     push_cast
     omega
theorem prim_ok (most : Int) (h : Okr xs d s) (hb : s.bad = false) (hn : xs.length + 2 ≤ n + 1 + s.i) : Prog xs d s (primM xs tm most s).1 (bulk (primM xs tm most s).2.1) := by
 simp only [primM]
 split
 ·exact atom_ok hx ht most h (by assumption) hn
 ·split
  ·rename_i hm
   have hl := isM_lt hm
   obtain ⟨r1, r2, r3⟩ := round_ok (s := { s with i := s.i + 1 }) hx ht (h.adv 1 (by omega)) hb (by show xs.length + 2 ≤ n + (s.i + 1); omega)
   simp only at r2 r3 ⊢
   exact ⟨r1, by (first | omega | (simp only; omega)), fun _ => by (first | omega | (simp only; omega)), by push_cast at r3; (first | omega | (simp only; omega))⟩
  ·split
   ·rename_i hm
    have hl := isM_lt hm
    obtain ⟨r1, r2, r3⟩ := row_ok (s := { s with i := s.i + 1 }) ht (h.adv 1 (by omega)) hb (by show xs.length + 2 ≤ n + (s.i + 1); omega)
    simp only at r2 r3 ⊢
    exact ⟨r1, by (first | omega | (simp only; omega)), fun _ => by (first | omega | (simp only; omega)), by push_cast at r3; (first | omega | (simp only; omega))⟩
   ·split
    ·rename_i hm
     have hl := isM_lt hm
     refine ⟨h.adv 1 (by omega), by show s.i ≤ s.i + 1; omega, fun _ => by show s.i < s.i + 1; omega, ?_⟩
     simp only [bulk, bulkS_eq, bulkL]
     show ((0 : Nat) : Int) + (_ + 0) ≤ 64 * (((s.i + 1 : Nat) : Int) - s.i)
     push_cast
     simp
     omega
    ·split
     ·rename_i hm
      have hl := isM_lt hm
      have hnn := h.hn
      simp only [varM]
      split
      ·refine ⟨h.adv 1 (by omega), by show s.i ≤ s.i + 1; omega, fun _ => by show s.i < s.i + 1; omega, ?_⟩
       simp only [bulk, bulkS_eq, bulkL]
       show ((0 : Nat) : Int) + (_ + 0) ≤ 64 * (((s.i + 1 : Nat) : Int) - s.i)
       push_cast
       simp
       omega
      ·refine ⟨⟨by show s.i + 1 ≤ _; omega, by show (s.ns ++ [_]).length ≤ s.i + 1; simp; omega, h.d0, h.d1, h.de⟩, by show s.i ≤ s.i + 1; omega, fun _ => by show s.i < s.i + 1; omega, ?_⟩
       simp only [bulk, bulkS_eq, bulkL]
       show ((0 : Nat) : Int) + (_ + 0) ≤ 64 * (((s.i + 1 : Nat) : Int) - s.i)
       push_cast
       simp
       omega
     ·exact ⟨h.spoil, Nat.le_refl _, fun e => (by cases e), (by simp [bulk, bulkS_eq, bulkL]; rfl)⟩
end
theorem betw_sz (x : ByteArray) : (betw x).1.x.size ≤ 3 := by
 unfold betw
 repeat' split
 all_goals first
  | (rename_i h; rcases h with rfl | rfl | rfl | rfl | rfl | rfl <;> decide)
  | (rename_i h; rcases h with rfl | rfl <;> decide)
  | (rename_i h; subst h; decide)
  | decide
theorem next_sz (xs : List Sg) (s : Rs) : (nextM xs s).1.x.size ≤ 3 := by
 unfold nextM
 repeat' split
 ·exact betw_sz _
 ·exact betw_sz _
 ·decide
theorem next_lt {o : Opv} (h : nextM xs s = (o, true)) : s.bad = false ∧ s.i < xs.length := by
 unfold nextM at h
 split at h
 ·rename_i hm; have := isM_lt hm; exact ⟨this.1, this.2.1⟩
 ·split at h
  ·rename_i hm; have := isM_lt hm.1; exact ⟨this.1, this.2.1⟩
  ·cases h
theorem tail_ok {n : Nat} {tm : Int → Rs → Rs × T} (ht : TmOk xs d n tm) (most : Int) : ∀ (m : Nat) (s : Rs) (t : T) (pr : Int), Okr xs d s → (s.bad = false → xs.length + 2 ≤ n + 1 + s.i) →
 Okr xs d (tailM xs tm most m s t pr).1 ∧ s.i ≤ (tailM xs tm most m s t pr).1.i ∧ bulk (tailM xs tm most m s t pr).2 ≤ bulk t + 64 * (((tailM xs tm most m s t pr).1.i : Int) - s.i)
 | 0, s, t, pr, h, hn => ⟨h, Nat.le_refl _, by simp only [tailM]; omega⟩
 | m + 1, s, t, pr, h, hn => by
   cases hb : s.bad with
   | true => simp only [tailM, hb, if_true]; exact ⟨h, Nat.le_refl _, by show bulk t ≤ bulk t + 64 * ((s.i : Int) - s.i); omega⟩
   | false =>
     obtain ⟨si, sb, sd, sn⟩ := s
     simp only at hb
     subst hb
     simp only [tailM, Bool.false_eq_true, if_false]
     split
     ·exact ⟨h, Nat.le_refl _, by show bulk t ≤ bulk t + 64 * ((si : Int) - si); omega⟩
     ·rename_i ho
      have ho2 : (nextM xs ⟨si, false, sd, sn⟩).2 = true := by cases e : (nextM xs ⟨si, false, sd, sn⟩).2 with | true => rfl | false => exact absurd (.inl e) ho
      have hl := next_lt (o := (nextM xs ⟨si, false, sd, sn⟩).1) (by rw [← ho2])
      have hnb : xs.length + 2 ≤ n + 1 + si := hn rfl
      have ha := ht (nextM xs ⟨si, false, sd, sn⟩).1.r { i := si + 1, bad := false, deep := sd, ns := sn : Rs } (h.adv 1 (by show si + 1 ≤ _; have := hl.2; simp only at this; omega)) rfl (by show xs.length + 2 ≤ n + (si + 1); omega)
      have hle := ha.le
      have hbk := ha.bk
      have hz := next_sz xs ⟨si, false, sd, sn⟩
      simp only at hle hbk
      obtain ⟨r1, r2, r3⟩ := tail_ok ht most m (tm (nextM xs ⟨si, false, sd, sn⟩).1.r { i := si + 1, bad := false, deep := sd, ns := sn : Rs }).1 (.mk 4 (nextM xs ⟨si, false, sd, sn⟩).1.x 0 [t, (tm (nextM xs ⟨si, false, sd, sn⟩).1.r { i := si + 1, bad := false, deep := sd, ns := sn : Rs }).2]) (nextM xs ⟨si, false, sd, sn⟩).1.pr ha.ok (fun e => by omega)
      refine ⟨r1, by omega, ?_⟩
      simp only [bulk, bulkS_eq, bulkL, List.length_cons, List.length_nil] at r3
      push_cast at r3 hbk
      omega
theorem term_ok (hx : ∀ g ∈ xs, g.x.size ≤ 32) : ∀ (n : Nat) (d : Int), 0 ≤ d → d ≤ 130 → TmOk xs d n (termM xs n)
 | 0, d, h0, h1 => fun most s h hb hn => by have := h.hi; omega
 | n + 1, d, h0, h1 => fun most s h hb hn => by
   have hde := h.de hb
   simp only [termM]
   split
   ·exact ⟨⟨h.hi, h.hn, by show d ≤ s.deep + 1; omega, by show s.deep + 1 ≤ 131; omega, fun e => by cases e⟩, Nat.le_refl _, fun e => (by cases e), (by simp [bulk, bulkS_eq, bulkL]; rfl)⟩
   ·rename_i hq
    have hd : d + 1 ≤ 130 := by
     have : ¬ 130 < s.deep + 1 := fun e => hq (.inr e)
     omega
    have ih := term_ok hx n (d + 1) (by omega) hd
    have hp := prim_ok (s := { s with deep := s.deep + 1 }) hx ih most ⟨h.hi, h.hn, by show d + 1 ≤ s.deep + 1; omega, by show s.deep + 1 ≤ 131; omega, fun _ => by show s.deep + 1 = d + 1; omega⟩ hb (by show xs.length + 2 ≤ n + 1 + s.i; omega)
    have hle := hp.le
    have hlt := hp.lt
    have hbk := hp.bk
    simp only at hle hlt hbk
    obtain ⟨r1, r2, r3⟩ := tail_ok ih most (xs.length + 3) (primM xs (termM xs n) most { s with deep := s.deep + 1 }).1 (primM xs (termM xs n) most { s with deep := s.deep + 1 }).2.1 (primM xs (termM xs n) most { s with deep := s.deep + 1 }).2.2 hp.ok (fun e => by omega)
    generalize hz : tailM xs (termM xs n) most (xs.length + 3) (primM xs (termM xs n) most { s with deep := s.deep + 1 }).1 (primM xs (termM xs n) most { s with deep := s.deep + 1 }).2.1 (primM xs (termM xs n) most { s with deep := s.deep + 1 }).2.2 = zz at r1 r2 r3 ⊢
    have q1 := r1.d0
    have q2 := r1.d1
    refine ⟨⟨r1.hi, r1.hn, by show d ≤ zz.1.deep - 1; omega, by show zz.1.deep - 1 ≤ 131; omega, fun e => by have := r1.de e; show zz.1.deep - 1 = d; omega⟩, by show s.i ≤ zz.1.i; omega, fun e => ?_, by show bulk zz.2 ≤ 64 * ((zz.1.i : Int) - s.i); omega⟩
    show s.i < zz.1.i
    cases e2 : (primM xs (termM xs n) most { s with deep := s.deep + 1 }).1.bad with
    | false => have := hlt e2; omega
    | true =>
      have : zz.1 = (primM xs (termM xs n) most { s with deep := s.deep + 1 }).1 := by
       rw [← hz]
       show (tailM xs (termM xs n) most ((xs.length + 2) + 1) _ _ _).1 = _
       simp only [tailM, e2, if_true]
      rw [this] at e
      rw [e2] at e
      cases e
end Go.Eng
set_option linter.unusedVariables false
set_option linter.unusedSimpArgs false
namespace Go.Eng
abbrev LRD : Lay := .st [.one, .one, .one, .one, .one]
abbrev rBox (ty : BT) (j : Nat) (xs : List Sg) (s : Rs) : Box := ⟨ty, LRD, [.agg [.one, .one, .one, .one, .one] [.d (.sl LSG (injGs xs)), i64 ((s.i : Nat) : Int), bl s.bad, i64 s.deep, .ref .one j 0 s.ns.length]]⟩
abbrev nBox (t : TypeId) (s : Rs) : Box := ⟨t, .one, (strs s.ns).map V.d⟩
abbrev injR (xs : List Sg) (s : Rs) : D := .agg [.one, .one, .one, .one, .one] [.sl LSG (injGs xs), .c (.int .i64 ((s.i : Nat) : Int)), .c (.bool s.bad), .c (.int .i64 s.deep), .sl .one (strs s.ns)]
def RcC {A : Type} (P : Program) (k : FuncId) (tr ts : TypeId) (xs : List Sg) (s : Rs) (args : List V) (z0 : Rs × A) (res : A → List V) : Prop :=
 HCallX P k (.ptr LRD 0 0 [] :: args) [rBox tr 1 xs s, nBox ts s] 1 (fun z : Rs × A => z = z0) (fun z => res z.2) (fun z => [rBox tr 1 xs z.1, nBox ts z.1])
def TmC (P : Program) (k : FuncId) (tr ts : TypeId) (xs : List Sg) (d : Int) (n : Nat) (tm : Int → Rs → Rs × T) : Prop :=
 ∀ most s, Okr xs d s → s.bad = false → xs.length + 2 ≤ n + s.i → RcC P k tr ts xs s [i64 most] (tm most s) (fun t => [.d (inj t)])
theorem retr_end {P : Program} {C : Cx} {n : Nat} {f : Fr} {L : Hp} {A : Type} {R : A → Prop} {C0 : Cx} {fn : Func} {o : Nat → Option (Nat × Nat)} {stay : Nat} {res : A → List V} {vs : List V} {Lout : A → List Box} (q : A) (hq : R q) (src : List Nat) (hx : CExt C0 C) (hrv : RetV P f L fn.results.toList vs) (hln : src.length = (Lout q).length) (hnd : nodupS (src.map some) = true) (hB : BxF L (srcOf (src.map some)) o stay 0 (Lout q)) (hst : stay ≤ (Lout q).length)
 (hv : VxL (srcOf (src.map some)) vs (res q)) : Fin C n (retRQ fn P C0 o stay R res Lout .normal) f L := fun a w' β S hr =>
 let ⟨_, h⟩ := retr_ok q hq src hx hrv hln hnd hB hst hv a w' β S hr
 ⟨rfl, h⟩
theorem fin_of_wk {C : Cx} {n : Nat} {f : Fr} {L : Hp} {Q : Act → World → Prop} {Z : Fr → Hp → Prop} (h : Wk C n f L Z) (k : ∀ f' L', Z f' L' → Fin C n Q f' L') : Fin C n Q f L := fun a w β S hr =>
 let ⟨f', L', β', S', hr', hz⟩ := h a w β S hr
 k f' L' hz a w β' S' hr'
theorem VxL_d1 {r : Nat → Option Nat} {x y : D} (h : x = y) : VxL r [.d x] [.d y] := by subst h; exact .cons .d .nil
theorem near_get {xs : List Sg} {s : Rs} (h : nearM xs s = true) : ∃ y, xs[s.i + 1]? = some y := by
 unfold nearM at h
 split at h
 ·rename_i g _ e _; exact ⟨g, e⟩
 ·cases h
def termB (xs : List Sg) (tm : Int → Rs → Rs × T) (most : Int) (s : Rs) : Rs × T :=
 if s.bad = true ∨ 130 < s.deep + 1 then ({ s with bad := true, deep := s.deep + 1 }, term0) else
 let a := primM xs tm most { s with deep := s.deep + 1 }
 let b := tailM xs tm most (xs.length + 3) a.1 a.2.1 a.2.2
 ({ b.1 with deep := b.1.deep - 1 }, b.2)
abbrev GoodS (xs : List Sg) : Prop := ∀ g ∈ xs, (0 ≤ g.p ∧ g.p ≤ 1099511627776) ∧ (0 ≤ g.m ∧ g.m ≤ 1099511627776)
theorem mark_t {xs : List Sg} {s s1 : Rs} {w : ByteArray} (h : (s1, true) = markM xs s w) : isM xs s 4 w = true ∧ s1 = { s with i := s.i + 1 } := by
 cases e : isM xs s 4 w with
 | true => simp [markM, e] at h; exact ⟨rfl, h⟩
 | false => simp [markM, e] at h
theorem mark_f {xs : List Sg} {s s1 : Rs} {w : ByteArray} (h : (s1, false) = markM xs s w) : isM xs s 4 w = false ∧ s1 = s := by
 cases e : isM xs s 4 w with
 | true => simp [markM, e] at h
 | false => simp [markM, e] at h; exact ⟨rfl, h⟩
theorem op_ret {p : Opv × Bool} {x : ByteArray} {a l r : Int} {b : Bool} (h : p = (⟨x, a, l, r⟩, b)) : [D.agg [.one, .one, .one, .one] [.c (.string x), .c (.int .i64 a), .c (.int .i64 l), .c (.int .i64 r)], .c (.bool b)] = [injO p.1, .c (.bool p.2)] := by rw [h]; rfl
section
variable {P : Program} {C : Cx} {n : Nat} {f : Fr} {L : Hp} {Q : AQ} {ops : Array Oper} {rest : List Oper} {dst : Option Tmp} {ty : TypeId} {pos : String} {after : Array Edge}
theorem AL_rccS {A : Type} (sl : Nat) (hT : CT P C) {x : Operand} {args : Array Operand} {ts : Array TypeId} {k : FuncId} {hargs : List V} {tr tn : TypeId} {xs : List Sg} {s : Rs} {z0 : Rs × A} {res : A → List V} {b0 : BT}
 (i q : Nat) (hx : ev f x = .d (.fn k [])) (hc : Callable P k) (hp : RcC P k tr tn xs s hargs z0 res) (ha : args.toList.map (ev f) = .ptr LRD i 0 [] :: hargs) (hfr : VxL (srcOf ([i, i + 1].map some)) hargs hargs) (hq : L.length = q)
 (h1 : L[i]? = some (some (rBox b0 (i + 1) xs s))) (hb0 : b0.t = tr) (h2 : L[i + 1]? = some (some (nBox tn s))) (hi : f sl = .ptr LRD i 0 []) (hres : ∀ t, VxL (outR q) (res t) (res t)) (hd : dstOk n dst = true)
 (h : ∀ z : Rs × A, z = z0 → AL P C n ops rest Q (updo (upd f sl (.ptr LRD q 0 [])) dst (retH (res z.2))) (dropL [i, i + 1] L ++ [some (rBox b0 (q + 1) xs z.1), some (nBox tn z.1)])) :
 AL P C n ops (⟨dst, callV x args ts, ty, pos, after, none⟩ :: rest) Q f L := by
 have e0 : srcOf ([i, i + 1].map some) 0 = some i := rfl
 have e1 : srcOf ([i, i + 1].map some) 1 = some (i + 1) := rfl
 have hnd : nodupS ([i, i + 1].map some) = true := by simp [nodupS]
 refine AL_hcallX (A := Rs × A) (R := fun z => z = z0) (res := fun z => res z.2) (Lin := [rBox tr 1 xs s, nBox tn s]) (Lout := fun z : Rs × A => [rBox tr 1 xs z.1, nBox tn z.1]) (stay := 1) hT [i, i + 1] (fun z : Rs × A => [rBox b0 (q + 1) xs z.1, nBox tn z.1]) (fun z => res z.2) hx hc hp ?_ rfl hnd ?_ (by simp) q hq sl i 0 LRD [] hi rfl (Nat.le_refl _) ?_ (fun z _ => hres z.2) hd h
 ·rw [ha]
  exact .cons (.ptr e0) hfr
 ·exact BxI_cons e0 h1 hb0 rfl rfl (.cons (.agg (.cons .d (.cons .d (.cons .d (.cons .d (.cons (.ref e1) .nil)))))) .nil) (BxI_cons e1 h2 rfl rfl rfl (VxL_d _) BxI_nil)
 ·intro z hz
  exact BxO_stay hb0.symm rfl (.cons (.agg (.cons .d (.cons .d (.cons .d (.cons .d (.cons (.ref (by unfold outR; rw [show Nat.ble q (q + 1) = true from Nat.ble_eq_true_of_le (by omega)]; simp)) .nil)))))) .nil) (Nat.one_pos) e0 h1 rfl (BxO_cons rfl rfl (VxL_d _) rfl BxO_nil)
theorem AL_rcc {A : Type} (hT : CT P C) {x : Operand} {args : Array Operand} {ts : Array TypeId} {k : FuncId} {hargs : List V} {tr tn : TypeId} {xs : List Sg} {s : Rs} {z0 : Rs × A} {res : A → List V} {b0 : BT}
 (i q : Nat) (hx : ev f x = .d (.fn k [])) (hc : Callable P k) (hp : RcC P k tr tn xs s hargs z0 res) (ha : args.toList.map (ev f) = .ptr LRD i 0 [] :: hargs) (hfr : VxL (srcOf ([i, i + 1].map some)) hargs hargs) (hq : L.length = q)
 (h1 : L[i]? = some (some (rBox b0 (i + 1) xs s))) (hb0 : b0.t = tr) (h2 : L[i + 1]? = some (some (nBox tn s))) (hi : f 0 = .ptr LRD i 0 []) (hres : ∀ t, VxL (outR q) (res t) (res t)) (hd : dstOk n dst = true)
 (h : ∀ z : Rs × A, z = z0 → AL P C n ops rest Q (updo (upd f 0 (.ptr LRD q 0 [])) dst (retH (res z.2))) (dropL [i, i + 1] L ++ [some (rBox b0 (q + 1) xs z.1), some (nBox tn z.1)])) :
 AL P C n ops (⟨dst, callV x args ts, ty, pos, after, none⟩ :: rest) Q f L :=
 AL_rccS 0 hT i q hx hc hp ha hfr hq h1 hb0 h2 hi hres hd h
theorem DT_loadq {t : TypeId} {x : Operand} {l l' l'' : Lay} {o i : Nat} {p : List Nat} {e y : D} {r qt : List Nat} (ho : ops[i]? = some ⟨dst, .load t x, ty, pos, after, none⟩) (hx : ev f x = .d (.rp l e p)) (hp : e.at? l p = some (o, l', y)) (hq : l.at? p = some (o, l'')) (hs : tySize P t = some l'.len) {ag : Bool} (ha : tyAgg P t = some ag) (hag : y.isAgg = ag) (h1 : ag = false → l'.len = 1) (hd : dstOk n dst = true)
 (h : DT P n ops qt C Q r (updo f dst (.d y)) L) : DT P n ops qt C Q (i :: r) f L :=
 DT_evq ho (fun _ => EA_load_rp hx hp hq hs ha hag h1) hd h
end
end Go.Eng
set_option linter.unusedVariables false
set_option linter.unusedSimpArgs false
namespace Go.Eng
def readS (xs : List Sg) : T × Int × Bool :=
 if xs.length = 0 then (term0, ((behindL xs 0 : Nat) : Int), false) else
 let a := termM xs (xs.length + 3) 1200 ⟨0, false, 0, []⟩
 if isM xs a.1 5 ⟨#[]⟩ = true ∧ okT a.2 = true then (a.2, ((a.1.i : Nat) : Int) + 1, true) else (term0, ((behindL xs 0 : Nat) : Int), false)
theorem readM_eq (t : ByteArray) : readM t = if (readS (signsM t)).2.2 = true ∧ (readS (signsM t)).2.1 = (((signsM t).length : Nat) : Int) then ((readS (signsM t)).1, true) else (term0, false) := by
 simp only [readM, readS]
 by_cases h0 : (signsM t).length = 0
 ·rw [if_pos h0, if_pos h0]; simp
 ·rw [if_neg h0, if_neg h0]
  generalize termM (signsM t) ((signsM t).length + 3) 1200 ⟨0, false, 0, []⟩ = a
  by_cases h1 : isM (signsM t) a.1 5 ⟨#[]⟩ = true ∧ okT a.2 = true
  ·rw [if_pos h1]
   by_cases h2 : a.1.i + 1 = (signsM t).length
   ·rw [if_pos ⟨h1.1, h1.2, h2⟩, if_pos ⟨rfl, by show ((a.1.i : Nat) : Int) + 1 = _; omega⟩]
   ·rw [if_neg fun h => h2 h.2.2, if_neg fun h => h2 (by have : ((a.1.i : Nat) : Int) + 1 = (((signsM t).length : Nat) : Int) := h.2; omega)]
  ·rw [if_neg h1, if_neg fun h => h1 ⟨h.1, h.2.1⟩]; simp
theorem runL_pos {t : ByteArray} {i : Nat} {p : Int → Bool} {v : UInt8} (hv : (bts t)[i]? = some v) (hp : p v.toNat = true) : 1 ≤ runL p ((bts t).drop i) := by
 rw [drop_get hv, runL, if_pos hp]; omega
theorem figL_ok : ∀ (l : List UInt8) (m : Int) (j : Nat), 0 ≤ m → j ≤ (figL l m j).2 ∧ (figL l m j).2 ≤ j + l.length ∧ 0 ≤ (figL l m j).1
 | [], m, j, h => ⟨Nat.le_refl _, by simp [figL], h⟩
 | v :: r, m, j, h => by
   simp only [figL]
   split
   ·rename_i hq
    have hf : 48 ≤ (v.toNat : Int) := by have := hq.1; simp only [figB, Bool.and_eq_true, decide_eq_true_eq] at this; exact this.1
    obtain ⟨h1, h2, h3⟩ := figL_ok r (10 * m + v.toNat - 48) (j + 1) (by omega)
    exact ⟨by omega, by simp only [List.length_cons]; omega, h3⟩
   ·exact ⟨Nat.le_refl _, by simp, h⟩
theorem quoL_name (t : ByteArray) (i : Nat) : ∀ (l : List UInt8) (j : Nat), quoL t i l j = 0 ∨ nameB (t.extract (i + 1) (quoL t i l j - 1)) = true
 | [], j => .inl rfl
 | v :: r, j => by
   simp only [quoL]
   split
   ·split
    ·rename_i h; exact .inr (by simpa using h)
    ·exact .inl rfl
   ·exact quoL_name t i r (j + 1)
theorem nameB_size {s : ByteArray} (h : nameB s = true) : s.size ≤ 20 := by
 simp only [nameB, inB, Bool.and_eq_true, decide_eq_true_eq] at h
 omega
theorem ext_size (t : ByteArray) (a b : Nat) : (t.extract a b).size ≤ b - a := by
 rw [ByteArray.size_extract]; omega
structure SgOk (t : ByteArray) (i : Nat) (q : Sg × Nat) : Prop where
 lt : i < q.2
 le : q.2 ≤ t.size
 x : q.1.x.size ≤ 32
 m0 : 0 ≤ q.1.m
 m1 : q.1.m ≤ 999999999
 p : q.1.p = i
theorem signM_ok {t : ByteArray} {i : Nat} (hi : i < t.size) : SgOk t i (signM t i) := by
 obtain ⟨v, hv⟩ : ∃ v, (bts t)[i]? = some v := ⟨_, List.getElem?_eq_getElem (by rw [bts_len]; exact hi)⟩
 have hb := byteI_get hv
 have hw := runL_le wordB ((bts t).drop i)
 have hy := runL_le symB ((bts t).drop i)
 simp only [List.length_drop, bts_len] at hw hy
 have one : ∀ k : Int, SgOk t i (⟨k, t.extract i (i + 1), 0, i, false⟩, i + 1) := fun k => ⟨Nat.lt_succ_self _, hi, by have := ext_size t i (i + 1); show (t.extract i (i + 1)).size ≤ 32; omega, Int.le_refl _, by show (0 : Int) ≤ 999999999; omega, rfl⟩
 by_cases h1 : smallB v.toNat = true ∨ greatB v.toNat = true
 ·have h1' : wordB v.toNat = true := by rcases h1 with h | h <;> simp [wordB, h]
  have hp := runL_pos (p := wordB) hv h1'
  by_cases hn : runL wordB ((bts t).drop i) ≤ 20
  ·rw [signM_w hb h1 hn]
   exact ⟨by show i < i + _; omega, by show i + _ ≤ t.size; omega, by have := ext_size t i (i + runL wordB ((bts t).drop i)); show (t.extract i (i + runL wordB ((bts t).drop i))).size ≤ 32; omega, Int.le_refl _, by show (0 : Int) ≤ 999999999; omega, rfl⟩
  ·rw [signM_w0 hb h1 hn]; exact one 6
 by_cases h2 : figB v.toNat = true
 ·have hf := figL_ok ((bts t).drop (i + 1)) (10 * 0 + v.toNat - 48) (i + 1) (by simp only [figB, Bool.and_eq_true, decide_eq_true_eq] at h2; omega)
  have he : figL ((bts t).drop i) 0 i = figL ((bts t).drop (i + 1)) (10 * 0 + v.toNat - 48) (i + 1) := by rw [drop_get hv, figL, if_pos ⟨h2, by omega⟩]
  rw [← he] at hf
  simp only [List.length_drop, bts_len] at hf
  by_cases hm : (figL ((bts t).drop i) 0 i).1 ≤ 999999999
  ·rw [signM_f (m := (figL ((bts t).drop i) 0 i).1) (j := (figL ((bts t).drop i) 0 i).2) hb h1 h2 rfl hm]
   exact ⟨by show i < (figL ((bts t).drop i) 0 i).2; omega, by show (figL ((bts t).drop i) 0 i).2 ≤ t.size; omega, by show 0 ≤ 32; omega, hf.2.2, hm, rfl⟩
  ·rw [signM_f0 (m := (figL ((bts t).drop i) 0 i).1) (j := (figL ((bts t).drop i) 0 i).2) hb h1 h2 rfl hm]; exact one 6
 by_cases h3 : (v.toNat : Int) = 39
 ·have hq := quoM_le hi
  have hqn : quoM t i = 0 ∨ nameB (t.extract (i + 1) (quoM t i - 1)) = true := quoL_name t i _ _
  by_cases h0 : 0 < quoM t i
  ·rw [signM_q hb h1 h2 h3 h0]
   have hs := nameB_size (hqn.resolve_left (by omega))
   exact ⟨by show i < quoM t i; omega, by show quoM t i ≤ t.size; omega, by show (t.extract (i + 1) (quoM t i - 1)).size ≤ 32; omega, Int.le_refl _, by show (0 : Int) ≤ 999999999; omega, rfl⟩
  ·rw [signM_q0 hb h1 h2 h3 h0]; exact one 6
 by_cases h4 : (v.toNat : Int) = 33 ∨ (v.toNat : Int) = 59
 ·rw [signM_a hb h1 h2 h3 h4]; exact one 1
 by_cases h5 : (v.toNat : Int) = 40 ∨ (v.toNat : Int) = 41 ∨ (v.toNat : Int) = 91 ∨ (v.toNat : Int) = 93 ∨ (v.toNat : Int) = 44 ∨ (v.toNat : Int) = 124
 ·rw [signM_m hb h1 h2 h3 h4 h5]; exact one 4
 by_cases h6 : endB t i = true
 ·rw [signM_e hb h1 h2 h3 h4 h5 h6]; exact one 5
 by_cases h7 : symB v.toNat = true
 ·have hp := runL_pos (p := symB) hv h7
  by_cases hn : runL symB ((bts t).drop i) ≤ 20
  ·rw [signM_s hb h1 h2 h3 h4 h5 h6 h7 rfl hn]
   exact ⟨by show i < i + _; omega, by show i + _ ≤ t.size; omega, by have := ext_size t i (i + runL symB ((bts t).drop i)); show (t.extract i (i + runL symB ((bts t).drop i))).size ≤ 32; omega, Int.le_refl _, by show (0 : Int) ≤ 999999999; omega, rfl⟩
  ·rw [signM_s0 hb h1 h2 h3 h4 h5 h6 h7 hn]; exact one 6
 rw [signM_b hb h1 h2 h3 h4 h5 h6 h7]; exact one 6
theorem signsL_ok {t : ByteArray} : ∀ (n i : Nat), ∀ g ∈ signsL t n i, g.x.size ≤ 32 ∧ (0 ≤ g.m ∧ g.m ≤ 999999999) ∧ 0 ≤ g.p ∧ g.p ≤ t.size
 | 0, i, g, h => by simp [signsL] at h
 | n + 1, i, g, h => by
   simp only [signsL] at h
   split at h
   ·simp at h
   ·rename_i hi
    split at h
    ·exact signsL_ok n _ g h
    ·split at h
     ·exact signsL_ok n _ g h
     ·have hk := signM_ok (t := t) (i := i) (by omega)
      rcases List.mem_cons.1 h with rfl | h
      ·exact ⟨hk.x, ⟨hk.m0, hk.m1⟩, by show 0 ≤ (signM t i).1.p; rw [hk.p]; omega, by show (signM t i).1.p ≤ t.size; rw [hk.p]; omega⟩
      ·exact signsL_ok n _ g h
theorem signsL_len {t : ByteArray} : ∀ (n i : Nat), (signsL t n i).length ≤ n
 | 0, i => by simp [signsL]
 | n + 1, i => by
   simp only [signsL]
   split
   ·simp
   ·split
    ·have := signsL_len (t := t) n (i + 1); omega
    ·split
     ·have := signsL_len (t := t) n (i + runL (fun v => !decide (v = 10)) ((bts t).drop i)); omega
     ·have := signsL_len (t := t) n (signM t i).2; simp only [List.length_cons]; omega
theorem signs_good {t : ByteArray} (hs : t.size ≤ 1048575) : (signsM t).length ≤ 1048576 ∧ GoodS (signsM t) ∧ ∀ g ∈ signsM t, g.x.size ≤ 32 := by
 refine ⟨Nat.le_trans (signsL_len _ _) (by omega), fun g hg => ?_, fun g hg => (signsL_ok _ _ g hg).1⟩
 obtain ⟨_, ⟨h1, h2⟩, h3, h4⟩ := signsL_ok _ _ g hg
 exact ⟨⟨h3, by omega⟩, h1, by omega⟩
end Go.Eng
set_option linter.unusedVariables false
set_option linter.unusedSimpArgs false
namespace Go.Eng
abbrev zDb : D := .agg [.one, .one] [.c (.slice none 0 0), .c (.slice none 0 0)]
def addM (d : Dbt) (c : Cl) : Dbt × Bool := if dbB ⟨d.cs ++ [c], d.op⟩ = true then (⟨d.cs ++ [c], d.op⟩, true) else (d, false)
theorem addM_t {cs : List Cl} {op : List ByteArray} {c : Cl} (h : dbB ⟨cs ++ [c], op⟩ = true) : addM ⟨cs, op⟩ c = (⟨cs ++ [c], op⟩, true) := by simp only [addM]; rw [if_pos h]
theorem addM_f {cs : List Cl} {op : List ByteArray} {c : Cl} (h : dbB ⟨cs ++ [c], op⟩ = false) : addM ⟨cs, op⟩ c = (⟨cs, op⟩, false) := by simp only [addM]; rw [if_neg (by rw [h]; decide)]
theorem injCs_app (cs : List Cl) (c : Cl) : (injCs cs).map V.d ++ [V.d (injC c)] = (injCs (cs ++ [c])).map V.d := by simp [injCs]
theorem addM_len (d : Dbt) (c : Cl) : (addM d c).1.cs.length ≤ d.cs.length + 1 ∧ (addM d c).1.op = d.op := by
 unfold addM
 split
 ·exact ⟨by simp, rfl⟩
 ·exact ⟨Nat.le_succ _, rfl⟩
mutual
inductive Dle : D → D → Prop
 | rfl {x : D} : Dle x x
 | nil {l : Lay} : Dle (.c (.slice none 0 0)) (.sl l [])
 | agg {fs : List Lay} {ds es : List D} : DleL ds es → Dle (.agg fs ds) (.agg fs es)
inductive DleL : List D → List D → Prop
 | nil : DleL [] []
 | cons {x y : D} {xs ys : List D} : Dle x y → DleL xs ys → DleL (x :: xs) (y :: ys)
end
mutual
theorem DC_le {S : Nat → Prop} {w : World} : ∀ {x y : D}, Dle x y → ∀ cs, DC S w x cs → DC S w y cs
 | _, _, .rfl, cs, h => h
 | _, _, .nil, cs, h => by
   simp only [DC] at h ⊢
   exact ⟨none, 0, 0, h.1, rfl, Nat.le_refl _, Nat.zero_le _, .inl rfl⟩
 | _, _, .agg k, cs, h => by
   simp only [DC] at h ⊢
   exact DCs_le k _ cs h
theorem DCs_le {S : Nat → Prop} {w : World} : ∀ {xs ys : List D}, DleL xs ys → ∀ fs cs, DCs S w fs xs cs → DCs S w fs ys cs
 | _, _, .nil, fs, cs, h => h
 | _, _, .cons k1 k2, fs, cs, h => by
   simp only [DCs] at h ⊢
   obtain ⟨f, fr, c1, c2, e1, e2, e3, e4, e5⟩ := h
   exact ⟨f, fr, c1, c2, e1, e2, e3, DC_le k1 c1 e4, DCs_le k2 fr c2 e5⟩
end
theorem Dle_isAgg {x y : D} (h : Dle x y) : x.isAgg = y.isAgg := by
 cases h <;> rfl
theorem Wk_conv {C : Cx} {n : Nat} {f : Fr} {L : Hp} {Z : Fr → Hp → Prop} (s : Nat) {x y : D} (hs : f s = .d x) (h : Dle x y) (k : Z (upd f s (.d y)) L) : Wk C n f L Z := fun a w β S hr =>
 ⟨_, _, _, _, hr.slot hs (fun v hv => by
  rcases hv with hv | ⟨h1, h2⟩
  ·cases hv
  ·refine .inr ⟨?_, ?_⟩
   ·simp only [VC] at h1 ⊢
    exact DC_le h _ h1
   ·show y.isAgg = _
    rw [← Dle_isAgg h]; exact h2), k⟩
abbrev callN : ByteArray := ⟨#[99, 97, 108, 108]⟩
abbrev trueN : ByteArray := ⟨#[116, 114, 117, 101]⟩
def ruleB (k : Int) (s : ByteArray) (n : Nat) : Bool := decide (k = 4) && decide (s = neck) && decide (n = 2)
def splitC : T → T × T
 | .mk k s m ks => match ruleB k s ks.length, ks with
   | true, [a, b] => (a, if b.kind = 1 then .mk 4 callN 0 [b] else b)
   | _, _ => (.mk k s m ks, atom0 trueN)
abbrev clZ : Cl := ⟨term0, term0, ⟨#[]⟩⟩
theorem zC_le : Dle (.agg [LT, LT, .one] [zT, zT, .c (.string ⟨#[]⟩)]) (injC clZ) :=
 .agg (.cons (.agg (.cons .rfl (.cons .rfl (.cons .rfl (.cons .nil .nil))))) (.cons (.agg (.cons .rfl (.cons .rfl (.cons .rfl (.cons .nil .nil))))) (.cons .rfl .nil)))
def clOf (t : T) (f : ByteArray) : Cl × Bool := if okT t = true ∧ headB (splitC t).1 = true ∧ okT (splitC t).2 = true then (⟨(splitC t).1, (splitC t).2, f⟩, true) else (clZ, false)
theorem clOf_t {t h b : T} {f : ByteArray} (h0 : okT t = true) (hs : splitC t = (h, b)) (h1 : headB h = true) (h2 : okT b = true) : clOf t f = (⟨h, b, f⟩, true) := by simp only [clOf, hs]; rw [if_pos ⟨h0, h1, h2⟩]
theorem clOf_f {t h b : T} {f : ByteArray} (hs : splitC t = (h, b)) (hn : ¬ (okT t = true ∧ headB h = true ∧ okT b = true)) : clOf t f = (clZ, false) := by simp only [clOf, hs]; rw [if_neg hn]
theorem split1 {m : Int} {a b : T} (h : b.kind = 1) : splitC (.mk 4 neck m [a, b]) = (a, .mk 4 callN 0 [b]) := by simp [splitC, ruleB, h]
theorem split2 {m : Int} {a b : T} (h : ¬ b.kind = 1) : splitC (.mk 4 neck m [a, b]) = (a, b) := by simp [splitC, ruleB, h]
theorem split3 {k m : Int} {s : ByteArray} {ks : List T} (h : ruleB k s ks.length = false) : splitC (.mk k s m ks) = (.mk k s m ks, atom0 trueN) := by simp [splitC, h]
end Go.Eng
set_option linter.unusedVariables false
set_option linter.unusedSimpArgs false
namespace Go.Eng
theorem zD_le : Dle zDb (injD ⟨[], []⟩) := .agg (.cons .nil (.cons .nil .nil))
theorem termM_read {xs : List Sg} (hx : ∀ g ∈ xs, g.x.size ≤ 32) : bulk (termM xs (xs.length + 3) 1200 ⟨0, false, 0, []⟩).2 ≤ 64 * ((xs.length : Int) + 1) := by
 have h := term_ok hx (xs.length + 3) 0 (Int.le_refl _) (by decide) 1200 ⟨0, false, 0, []⟩ ⟨Nat.zero_le _, Nat.le_refl _, Int.le_refl _, by decide, fun _ => rfl⟩ rfl (by show xs.length + 2 ≤ xs.length + 3 + 0; omega)
 have h1 := h.bk
 have h2 := h.ok.hi
 have h3 : ((⟨0, false, 0, []⟩ : Rs).i : Int) = 0 := rfl
 rw [h3] at h1
 omega
theorem readM_bulk (t : ByteArray) (hs : t.size ≤ 3000) : bulk (readM t).1 ≤ 64 * ((t.size : Int) + 2) := by
 have hg := signs_good (t := t) (by omega)
 have hl : (signsM t).length ≤ t.size + 1 := signsL_len _ _
 have h0 : bulk term0 = 0 := by simp [bulk, bulkS_eq, bulkL]; rfl
 simp only [readM]
 split
 ·rw [h0]; omega
 ·split
  ·have := termM_read hg.2.2
   show bulk (termM (signsM t) ((signsM t).length + 3) 1200 ⟨0, false, 0, []⟩).2 ≤ _
   omega
  ·rw [h0]; omega
theorem split_bulk (t : T) : bulk (splitC t).1 + bulk (splitC t).2 ≤ bulk t + 5 := by
 obtain ⟨k, s, m, ks⟩ := t
 cases hr : ruleB k s ks.length with
 | false =>
   rw [split3 hr]
   have h4 : ((trueN.size : Nat) : Int) = 4 := rfl
   have h5 := bulk_atom trueN
   show bulk (.mk k s m ks) + bulk (atom0 trueN) ≤ _
   omega
 | true =>
   have hr2 := hr
   simp only [ruleB, Bool.and_eq_true, decide_eq_true_eq] at hr2
   obtain ⟨⟨rfl, rfl⟩, hl⟩ := hr2
   match ks, hl with
   | [a, b], _ =>
     have hn : ((neck.size : Nat) : Int) = 2 := rfl
     have hc : ((callN.size : Nat) : Int) = 4 := rfl
     by_cases hk : b.kind = 1
     ·rw [split1 hk]; simp only [bulk, bulkS_eq, bulkL, List.length_cons, List.length_nil]; omega
     ·rw [split2 hk]; simp only [bulk, bulkS_eq, bulkL, List.length_cons, List.length_nil]; omega
theorem clOf_bulk (t : T) (f : ByteArray) : bulkC (clOf t f).1 ≤ bulk t + 5 + f.size := by
 have h := split_bulk t
 have hn := bulk_nn t
 unfold clOf
 split
 ·simp only [bulkC]; omega
 ·have h0 : bulk term0 = 0 := by simp [bulk, bulkS_eq, bulkL]; rfl
  simp only [bulkC, h0]
  show 0 + 0 + ((0 : Nat) : Int) ≤ _
  omega
theorem bulkCs_app (cs : List Cl) (c : Cl) : bulkCs (cs ++ [c]) = bulkCs cs + bulkC c := by
 induction cs with
 | nil => simp [bulkCs]
 | cons a r ih => simp only [List.cons_append, bulkCs, ih]; omega
theorem bulkD_app (cs : List Cl) (op : List ByteArray) (c : Cl) : bulkD ⟨cs ++ [c], op⟩ = bulkD ⟨cs, op⟩ + 1 + bulkC c := by
 simp only [bulkD, bulkCs_app, List.length_append, List.length_cons, List.length_nil]; omega
theorem addM_bulk (cs : List Cl) (op : List ByteArray) (c : Cl) : bulkD (addM ⟨cs, op⟩ c).1 ≤ bulkD ⟨cs, op⟩ + 1 + bulkC c := by
 have := bulkC_nn c
 unfold addM
 split
 ·exact Int.le_of_eq (bulkD_app cs op c)
 ·show bulkD ⟨cs, op⟩ ≤ _; omega
end Go.Eng
set_option linter.unusedVariables false
set_option linter.unusedSimpArgs false
namespace Go.Eng
def idxP (ps : List ByteArray) (s : ByteArray) : Int := idxS ps s 0
abbrev LvA := List Int × Bool
abbrev LvE := Nat × ByteArray × Bool
def wB (n : Bool) : Int := if n = true then 1 else 0
def rlx (ps : List ByteArray) (i : Nat) (a : LvA) (s : ByteArray) (n : Bool) : LvA :=
 if idxP ps s < 0 then a
 else if a.1.getD i 0 < a.1.getD (idxP ps s).toNat 0 + wB n then (a.1.set i (a.1.getD (idxP ps s).toNat 0 + wB n), true) else a
def rlxE (ps : List ByteArray) (a : LvA) (e : LvE) : LvA := rlx ps e.1 a e.2.1 e.2.2
def runE (ps : List ByteArray) (es : List LvE) (a : LvA) : LvA := es.foldl (rlxE ps) a
section
variable {A B : Type} {s1 : A → ByteArray → Bool → A} {s2 : B → ByteArray → Bool → B} {g : A → B}
end
def visN (t : T) (neg : Bool) : List (ByteArray × Bool) := eachF (fun l s n => l ++ [(s, n)]) t neg []
def vis (t : T) : List (ByteArray × Bool) := visN t false
def edC (ps : List ByteArray) (c : Cl) : List LvE := if okT c.b = true then (vis c.b).map (fun q => ((idxP ps (predS c.h)).toNat, q)) else []
def edI (ps : List ByteArray) : List Cl → List LvE
 | [] => []
 | c :: r => edC ps c ++ edI ps r
def impCl (ps : List ByteArray) (c : Cl) (a : LvA) : LvA := if okT c.b = true then eachF (rlx ps (idxP ps (predS c.h)).toNat) c.b false a else a
def impL (ps : List ByteArray) : List Cl → LvA → LvA
 | [], a => a
 | c :: r, a => impL ps r (impCl ps c a)
def stepW (want : Bool) (a : List ByteArray) (s : ByteArray) (n : Bool) : List ByteArray := if n = want then onceL a s else a
def denyA (want : Bool) : List Cl → List ByteArray → List ByteArray
 | [], out => out
 | c :: r, out => denyA want r (if okT c.b = true then eachF (stepW want) c.b false out else out)
def deny (cs : List Cl) (p : ByteArray) (want : Bool) : List ByteArray := denyA want (clsOf cs p) []
def szB : List Cl → Nat
 | [] => 0
 | c :: r => sz c.b + szB r
def edK (cs : List Cl) (i : Nat) (p : ByteArray) (w : Bool) : List LvE := (deny cs p w).map fun s => (i, s, w)
def edS (cs : List Cl) (i : Nat) (p : ByteArray) : List LvE := edK cs i p false ++ edK cs i p true
def okE (ps : List ByteArray) (l : List Int) (e : LvE) : Prop := idxP ps e.2.1 < 0 ∨ l.getD (idxP ps e.2.1).toNat 0 + wB e.2.2 ≤ l.getD e.1 0
structure SolL (ps : List ByteArray) (E : LvE → Prop) (l : List Int) : Prop where
 len : l.length = ps.length
 nn : ∀ i, 0 ≤ l.getD i 0
 ok : ∀ e, E e → okE ps l e
structure BelL (ps : List ByteArray) (E : LvE → Prop) (l : List Int) : Prop where
 len : l.length = ps.length
 nn : ∀ i, 0 ≤ l.getD i 0
 be : ∀ m, SolL ps E m → ∀ i, l.getD i 0 ≤ m.getD i 0
def sumL : List Int → Int
 | [] => 0
 | x :: r => x + sumL r
def levR (ps : List ByteArray) (E : LvE → Prop) (R : LvA) : Prop :=
 (R.2 = true ∧ SolL ps E R.1 ∧ BelL ps E R.1 ∧ ∀ i, R.1.getD i 0 ≤ ps.length) ∨ (R = ([], false) ∧ ∃ l, BelL ps E l ∧ ∃ i, (ps.length : Int) < l.getD i 0)
open Classical in
noncomputable def levOf (d : Dbt) : LvA := if h : ∃ R, levR (predsF d.cs []) (· ∈ edI (predsF d.cs []) d.cs) R then Classical.choose h else ([], false)
def supL : List Int → Int
 | [] => 0
 | x :: r => max x (supL r)
def goodL (ps : List ByteArray) (a : LvA) : Prop := a.1.length = ps.length ∧ ∀ i, 0 ≤ a.1.getD i 0
open Classical in
noncomputable def μL (ps : List ByteArray) (a : LvA) : Int := if goodL ps a then supL a.1 else max 1099511627776 (supL a.1)
def maxF : List Int → Int
 | [] => 0
 | x :: r => r.foldl max x
def edKs (cs : List Cl) (i : Nat) (p : ByteArray) : Nat → List LvE
 | 0 => []
 | 1 => edK cs i p false
 | _ => edS cs i p
def edT (cs : List Cl) (ps : List ByteArray) : Nat → List LvE
 | 0 => []
 | i + 1 => edT cs ps i ++ (match ps[i]? with | some p => edS cs i p | none => [])
def bdL (n : Nat) (B : Int) (l : List Int) : Prop := l.length = n ∧ ∀ q, 0 ≤ l.getD q 0 ∧ l.getD q 0 ≤ B
theorem bdL.mono {n : Nat} {B B' : Int} {l : List Int} (h : bdL n B l) (hB : B ≤ B') : bdL n B' l := ⟨h.1, fun q => ⟨(h.2 q).1, by have := (h.2 q).2; omega⟩⟩
def mL (n : Nat) (ch : Bool) (l : List Int) : Nat := if ch = true then ((n : Int) * n - sumL l).toNat + 1 else 0
end Go.Eng
set_option linter.unusedVariables false
set_option linter.unusedSimpArgs false
namespace Go.Eng
theorem bulkSs_app (a b : List ByteArray) : bulkSs (a ++ b) = bulkSs a + bulkSs b := by
 induction a with
 | nil => simp [bulkSs]
 | cons x r ih => simp only [List.cons_append, bulkSs, ih]; omega
structure CallsLaw (d : Dbt) (P Mi : List ByteArray) (R K : ByteArray → List ByteArray) (kn : ByteArray → Bool) : Prop where
 f1 : ∀ p x, x ∈ K p → hasS (R p) x = true
 f2 : ∀ p q x, q ∈ R p → x ∈ K q → hasS (R p) x = true
 f3 : ∀ p x, p ∈ P → x ∈ K p → kn x = false → hasS Mi x = true
 f4 : ∀ x, x ∈ Mi → kn x = false
 f5 : P.length ≤ d.cs.length
end Go.Eng
set_option linter.unusedVariables false
set_option linter.unusedSimpArgs false
namespace Go.Eng
def tPA : T := .mk 4 ⟨#[112]⟩ 0 [.mk 2 ⟨#[97]⟩ 0 []]
def cPA : Cl := ⟨tPA, .mk 2 ⟨#[116, 114, 117, 101]⟩ 0 [], ⟨#[111, 110, 101]⟩⟩
theorem readPA : readM (⟨#[112, 40, 97, 41]⟩ ++ ⟨#[32, 46]⟩) = (tPA, true) := by kernel_rfl
theorem clPA : clOf tPA ⟨#[111, 110, 101]⟩ = (cPA, true) := by kernel_rfl
theorem dbPA : dbB ⟨[] ++ [cPA], []⟩ = true := by kernel_rfl
theorem bulkPA : bulkC cPA ≤ 40 := by simp [bulkC, cPA, tPA, bulk, bulkS_eq, bulkL, ByteArray.size]
theorem bulkSs_emp : ∀ k : Nat, bulkSs (List.replicate k ⟨#[]⟩) = 0
 | 0 => rfl
 | k + 1 => by
   rw [List.replicate_succ, bulkSs, bulkSs_emp k]; rfl
section
variable {P : Program} {C : Cx} {n : Nat} {f : Fr} {L : Hp} {Q : AQ} {dst : Option Tmp} {ty : TypeId} {pos : String} {after : Array Edge} {g : Option (Nat × Bool)}
theorem AC_loopO {c : Code} (h : AC P C n c (thenQ (fun _ _ => False) Q) f L) : AC P C n (.loop c) Q f L := by
 refine AC_loop (fun _ f' L' => f' = f ∧ L' = L) 0 (Wk.done ⟨rfl, rfl⟩) ?_
 rintro m f' L' ⟨rfl, rfl⟩
 refine AC_mono h fun e a w hq => ?_
 cases e with
 | normal => exact hq.elim
 | _ => exact hq
theorem EA_buildD {t : TypeId} {parts : Array (Nat × Operand)} {fs : List Lay} {zs : List D} {z : Value} {vs : List V} {ds : List D} (hz : tyZero P t = some (some z)) (hzc : cellsDs fs zs = some z.cells.toList) (hp : tyPlaces P t = some (layPlaces 0 fs)) (hb : BS f fs (zs.map V.d) parts.toList vs) (ha : allD vs = some ds) :
 EvA P n ⟨dst, .build t parts, ty, pos, after, g⟩ f L (.d (.agg fs ds)) := fun C f2 hf L2 hL => Ev_buildD hz hzc hp (BS_congr hb fun q hq => hf q.2 (by
  simp only [Op.operands]
  simp only [List.mem_toArray, List.mem_map]
  exact ⟨q, hq, rfl⟩)) ha
theorem Ev_len_emp {t e : TypeId} {x : Operand} (ht : tyElem P t = some e) (hx : ev f x = .emp) : Ev P C n ⟨dst, callB .len #[x] #[t], ty, pos, after, g⟩ f L (i64 0) :=
 Ev_len_of ht fun a w β S hr => by
  have := rel_ev hr x
  rw [hx] at this
  obtain ⟨A, h⟩ := VR_emp this
  exact ⟨A, 0, h⟩
end
theorem addPA {j : Nat} {cs cs2 : List Cl} {op op2 : List ByteArray} {c : Cl} {b : Bool} (hcl : cs.length ≤ j) (hop : op = []) (hf : 0 < j → ∃ r, cs = cPA :: r) (h0 : j = 0 → c = cPA) (h : (⟨cs2, op2⟩, b) = addM ⟨cs, op⟩ c) : ∃ r, cs2 = cPA :: r := by
 rcases Nat.eq_zero_or_pos j with hj | hj
 ·have hn : cs = [] := List.eq_nil_of_length_eq_zero (by omega)
  subst hn; subst hop
  rw [h0 hj, addM_t dbPA] at h
  injection h with h1 h2
  injection h1 with h1 h3
  exact ⟨[], h1⟩
 ·obtain ⟨r, hr⟩ := hf hj
  subst hr
  cases hb : dbB ⟨(cPA :: r) ++ [c], op⟩ with
  | true =>
    rw [addM_t hb] at h
    injection h with h1 h2
    injection h1 with h1 h3
    exact ⟨r ++ [c], h1⟩
  | false =>
    rw [addM_f hb] at h
    injection h with h1 h2
    injection h1 with h1 h3
    exact ⟨r, h1⟩
theorem bulkD_rep (cs : List Cl) (op : List ByteArray) (c : Cl) : ∀ q : Nat, bulkD ⟨cs ++ List.replicate q c, op⟩ = bulkD ⟨cs, op⟩ + q * (1 + bulkC c)
 | 0 => by simp
 | q + 1 => by
   rw [List.replicate_succ', ← List.append_assoc, bulkD_app, bulkD_rep cs op c q]
   push_cast
   rw [Int.add_mul]
   omega
theorem bulkD_op (cs : List Cl) (op : List ByteArray) (k : Nat) : bulkD ⟨cs, List.replicate k ⟨#[]⟩⟩ ≤ bulkD ⟨cs, op⟩ + k := by
 have h1 := bulkSs_nn op
 simp only [bulkD, bulkSs_emp, List.length_replicate]
 omega
theorem injCs_rep (cs : List Cl) (c : Cl) (q : Nat) : (injCs (cs ++ List.replicate q c)).map V.d ++ [V.d (injC c)] = (injCs (cs ++ List.replicate (q + 1) c)).map V.d := by
 rw [List.replicate_succ', ← List.append_assoc, injCs_app]
theorem bulkD_rep120 (cs : List Cl) (op : List ByteArray) {q : Nat} (hq : q ≤ 120) : bulkD ⟨cs ++ List.replicate q cPA, op⟩ ≤ bulkD ⟨cs, op⟩ + 4920 := by
 rw [bulkD_rep]
 have h1 := bulkPA
 have h3 := bulkC_nn cPA
 have h2 : (q : Int) * (1 + bulkC cPA) ≤ 120 * 41 := Int.mul_le_mul (by omega) (by omega) (by omega) (by omega)
 omega
end Go.Eng
namespace Go.Proofs
open Go.Shelf
def Tryz.laysM171_ren : Go.Shelf.Ren := ⟨fun | 171 => 105 | 243 => 129 | 246 => 149 | 283 => 167 | 284 => 168 | 285 => 169 | 286 => 170 | 129 => 179 | 317 => 178 | 318 => 180 | 319 => 181 | 320 => 182 | 337 => 187 | 338 => 188 | n => n, fun | 3 => 3 | 9 => 9 | 2 => 2 | 4 => 4 | 171 => 165 | 0 => 0 | 53 => 166 | 37 => 22 | 5 => 5 | 173 => 169 | 212 => 174 | 51 => 175 | 20 => 20 | 213 => 176 | 46 => 129 | 232 => 181 | 233 => 182 | n => n, fun | 17 => 1 | 18 => 2 | 19 => 3 | n => n⟩
theorem Tryz.laysM171 : Go.Proofs.LaysM.n171 Tryz.prog Tryz.laysM171_ren := {
 mixed := by kernel_rfl
 f129 := Tryz.func179.trans (congrArg some (by kernel_rfl))
 f171 := Tryz.func105.trans (congrArg some (by kernel_rfl))
 f243 := Tryz.func129.trans (congrArg some (by kernel_rfl))
 f246 := Tryz.func149.trans (congrArg some (by kernel_rfl))
 f283 := Tryz.func167.trans (congrArg some (by kernel_rfl))
 f284 := Tryz.func168.trans (congrArg some (by kernel_rfl))
 f285 := Tryz.func169.trans (congrArg some (by kernel_rfl))
 f286 := Tryz.func170.trans (congrArg some (by kernel_rfl))
 f317 := Tryz.func178.trans (congrArg some (by kernel_rfl))
 f318 := Tryz.func180.trans (congrArg some (by kernel_rfl))
 f319 := Tryz.func181.trans (congrArg some (by kernel_rfl))
 f320 := Tryz.func182.trans (congrArg some (by kernel_rfl))
 f337 := Tryz.func187.trans (congrArg some (by kernel_rfl))
 f338 := Tryz.func188.trans (congrArg some (by kernel_rfl))
 t0 := Tryz.underlying0
 a0 := Tryz.isAgg0
 z0 := Tryz.sizeOf0
 v0 := Tryz.zeroValue0
 t2 := Tryz.underlying2
 a2 := Tryz.isAgg2
 z2 := Tryz.sizeOf2
 v2 := Tryz.zeroValue2
 t3 := Tryz.underlying3
 a3 := Tryz.isAgg3
 z3 := Tryz.sizeOf3
 v3 := Tryz.zeroValue3
 t4 := Tryz.underlying4
 a4 := Tryz.isAgg4
 z4 := Tryz.sizeOf4
 v4 := Tryz.zeroValue4
 t5 := Tryz.underlying5
 a5 := Tryz.isAgg5
 z5 := Tryz.sizeOf5
 v5 := Tryz.zeroValue5
 t9 := Tryz.underlying9
 a9 := Tryz.isAgg9
 z9 := Tryz.sizeOf9
 v9 := Tryz.zeroValue9
 t20 := Tryz.underlying20
 a20 := Tryz.isAgg20
 z20 := Tryz.sizeOf20
 v20 := Tryz.zeroValue20
 t37 := Tryz.underlying22
 a37 := Tryz.isAgg22
 z37 := Tryz.sizeOf22
 v37 := Tryz.zeroValue22
 t46 := Tryz.underlying129
 a46 := Tryz.isAgg129
 z46 := Tryz.sizeOf129
 v46 := Tryz.zeroValue129
 t51 := Tryz.underlying175
 a51 := Tryz.isAgg175
 z51 := Tryz.sizeOf175
 v51 := Tryz.zeroValue175
 t53 := Tryz.underlying166
 a53 := Tryz.isAgg166
 z53 := Tryz.sizeOf166
 v53 := Tryz.zeroValue166
 t171 := Tryz.underlying165
 a171 := Tryz.isAgg165
 z171 := Tryz.sizeOf165
 v171 := Tryz.zeroValue165
 t173 := Tryz.underlying169
 a173 := Tryz.isAgg169
 z173 := Tryz.sizeOf169
 v173 := Tryz.zeroValue169
 t212 := Tryz.underlying174
 a212 := Tryz.isAgg174
 z212 := Tryz.sizeOf174
 v212 := Tryz.zeroValue174
 t213 := Tryz.underlying176
 a213 := Tryz.isAgg176
 z213 := Tryz.sizeOf176
 t232 := Tryz.underlying181
 a232 := Tryz.isAgg181
 z232 := Tryz.sizeOf181
 v232 := Tryz.zeroValue181
 t233 := Tryz.underlying182
 a233 := Tryz.isAgg182
 z233 := Tryz.sizeOf182
 v233 := Tryz.zeroValue182
 g17 := by kernel_rfl
 g18 := by kernel_rfl
 g19 := by kernel_rfl
 i0 := by kernel_rfl
 i2 := by kernel_rfl
 i3 := by kernel_rfl
 i4 := by kernel_rfl
 i5 := by kernel_rfl
 i9 := by kernel_rfl
 i20 := by kernel_rfl
 i37 := by kernel_rfl
 i46 := by kernel_rfl
 i51 := by kernel_rfl
 i53 := by kernel_rfl
 i171 := by kernel_rfl
 i173 := by kernel_rfl
 i212 := by kernel_rfl
 i232 := by kernel_rfl
 i233 := by kernel_rfl
 m17 := by kernel_rfl
 m18 := by kernel_rfl
 m19 := by kernel_rfl }
open Go.RowKit Go.Sort Go.Lib in
theorem Tryz.strconv_Itoa (n : Int) (h0 : -9223372036854775808 ≤ n) (h1 : n ≤ 9223372036854775807) (w : World) (htab : Lib.TabIs Tryz.prog w "internal/strconv.uint64pow10" .u64 Lib.pow10Tab) :
 Calls Tryz.prog 105 #[.int .i64 n] w fun e w' => e = .returned (.string ⟨(Lib.itoa n).toArray⟩) ∧ ∃ k os, w' = grow (w.drewN k) os := Any.strconv_Itoa Tryz.laysM171 n h0 h1 w htab
end Go.Proofs
set_option linter.unusedVariables false
namespace Go.Proofs.YtjgliechbnommaaGreatDoor
open Go.Eng
theorem c_itoa (n : Int) (h0 : -9223372036854775808 ≤ n) (h1 : n ≤ 9223372036854775807) : PCall Tryz.prog 105 [.c (.int .i64 n)] (· = [.c (.string (dec n))]) := by
 intro w S xs hS hT hd
 obtain ⟨g, hg⟩ : ∃ g, Tryz.prog.globalNamed "internal/strconv.uint64pow10" = some g := ⟨_, show _ = some 1 by kernel_rfl⟩
 cases hd with
 | cons h2 h3 =>
   cases h3
   have := VR0_c.1 (VR0_of_RD (β := fun _ => none) h2)
   obtain ⟨rfl, _⟩ := this
   refine (Tryz.strconv_Itoa n h0 h1 w (hT g hg).2).mono ?_
   rintro e w' ⟨rfl, k, os, rfl⟩
   refine ⟨_, _, S, rfl, rfl, ⟨by simp only [DC]; exact ⟨rfl, rfl⟩, rfl⟩, fun b h => h, fun b h => ⟨?_, .inl h⟩, ⟨rfl, rfl, rfl, ?_, ?_⟩⟩
   ·have := hS b h
    show b < (w.heap ++ os).size
    simp; omega
   ·show w.heap.size ≤ (w.heap ++ os).size
    simp
   ·intro b hb _
    show (w.heap ++ os)[b]? = w.heap[b]?
    exact Array.getElem?_append_left hb
end Go.Proofs.YtjgliechbnommaaGreatDoor
set_option linter.unusedVariables false
set_option linter.unusedSimpArgs false
namespace Go.Eng
section
variable {P : Program} {C : Cx} {n : Nat} {f : Fr} {L : Hp} {Q : AQ} {ops : Array Oper} {rest : List Oper} {dst : Option Tmp} {ty : TypeId} {pos : String} {after : Array Edge}
theorem Zs {id : Nat} {l : List Oper} {y : Code} (h : ∀ K : Act → World → Prop, (∀ C f L, AC P C n y Q f L → Fin C n K f L) → AL P C n l.toArray l (thenQ K Q) f L) : AC P C n (.seq (.region id l.toArray false) y) Q f L := AC_seq fun K hK => AC_region (h K hK)
theorem Zn {K : Act → World → Prop} {Q2 : AQ} {y : Code} (hK : ∀ C f L, AC P C n y Q2 f L → Fin C n K f L) (k : AC P C n y Q2 f L) (hQ : Fin C n K f L → Fin C n (Q .normal) f L := by exact id) : AL P C n ops [] Q f L := AL_nil (hQ (hK _ _ _ k))
theorem Zk {K : Act → World → Prop} {Q2 : AQ} {y : Code} (hK : ∀ C f L, AC P C n y Q2 f L → Fin C n K f L) (k : AC P C n y Q2 f L) (hQ : Fin C n K f L → Fin C n (Q .normal) f L := by exact id) : AC P C n .skip Q f L := AC_skip (hQ (hK _ _ _ k))
theorem Zx {id : Nat} {K : Act → World → Prop} {Q2 : AQ} {y : Code} (hK : ∀ C f L, AC P C n y Q2 f L → Fin C n K f L) (k : AC P C n y Q2 f L) (hQ : Fin C n K f L → Fin C n (Q (.exit id)) f L := by exact fun h => h) : AC P C n (.exit id) Q f L := AC_exit (hQ (hK _ _ _ k))
theorem Zm {x : Operand} (h : AL P C n ops rest Q (updo f dst (ev f x)) L) (hd : dstOk n dst = true := by exact rfl) : AL P C n ops (⟨dst, .move x, ty, pos, after, none⟩ :: rest) Q f L := AL_ev Ev_move hd h
theorem Za {x : Operand} (h : AL P C n ops rest Q (updo f dst (ev f x)) L) (hd : dstOk n dst = true := by exact rfl) : AL P C n ops (⟨dst, .assign x, ty, pos, after, none⟩ :: rest) Q f L := AL_ev Ev_assign hd h
theorem Ze {op : Op} {v : V} (he : Ev P C n ⟨dst, op, ty, pos, after, none⟩ f L v) (h : AL P C n ops rest Q (updo f dst v) L) (hd : dstOk n dst = true := by exact rfl) : AL P C n ops (⟨dst, op, ty, pos, after, none⟩ :: rest) Q f L := AL_ev he hd h
theorem Zp {c x y : Operand} {b : Bool} (h : AL P C n ops rest Q (updo f dst (bif b then ev f x else ev f y)) L) (hc : ev f c = bl b := by exact rfl) (hd : dstOk n dst = true := by exact rfl) : AL P C n ops (⟨dst, .pick c x y, ty, pos, after, none⟩ :: rest) Q f L := AL_ev (Ev_pick hc) hd h
theorem Zg {op : Op} {j s : Nat} {want : Bool} (h : AL P C n ops rest Q (updo f dst (.tup [])) L) (hj : (ops[j]?).bind (·.dst) = some s := by exact rfl) (hs : Nat.blt s n = true := by exact rfl) (hv : f s = bl (!want) := by exact rfl) (hd : dstOk n dst = true := by exact rfl) : AL P C n ops (⟨dst, op, ty, pos, after, some (j, want)⟩ :: rest) Q f L := AL_guard_f hj hs hv hd h
theorem Zu {op : Op} {j s : Nat} {want : Bool} (h : AL P C n ops rest Q (updo f dst (.tup [])) L) (hj : (ops[j]?).bind (·.dst) = some s := by exact rfl) (hs : Nat.blt s n = true := by exact rfl) (hv : f s = .tup [] := by exact rfl) (hd : dstOk n dst = true := by exact rfl) : AL P C n ops (⟨dst, op, ty, pos, after, some (j, want)⟩ :: rest) Q f L := AL_guard_u hj hs hv hd h
theorem Zt {op : Op} {j s : Nat} {want : Bool} (h : AL P C n ops (⟨dst, op, ty, pos, after, none⟩ :: rest) Q f L) (hj : (ops[j]?).bind (·.dst) = some s := by exact rfl) (hs : Nat.blt s n = true := by exact rfl) (hv : f s = bl want := by exact rfl) : AL P C n ops (⟨dst, op, ty, pos, after, some (j, want)⟩ :: rest) Q f L := AL_guard_t hj hs hv h
theorem Zb (s : Nat) {b : Bool} (ht : b = true → AL P C n ops rest Q (upd f s (bl true)) L) (hf : b = false → AL P C n ops rest Q (upd f s (bl false)) L) (hs : f s = bl b := by exact rfl) : AL P C n ops rest Q f L := AL_bool s hs ht hf
theorem Zc {c : Operand} {x y : Code} {b : Bool} (ht : b = true → AC P C n x Q f L) (hf : b = false → AC P C n y Q f L) (hc : ev f c = bl b := by exact rfl) : AC P C n (.cond c x y) Q f L := AC_cond hc ht hf
theorem Ya {s : TypeId} {x : Operand} {l l1 l2 : Lay} {i k j o0 o : Nat} {p : List Nat} (hf : tyField P s j = some (o, true)) (h : AL P C n ops rest Q (updo f dst (.ptr l i k (p ++ [j]))) L) (hx : ev f x = .ptr l i k p := by exact rfl) (h1 : l.at? p = some (o0, l1) := by exact rfl) (h2 : l.at? (p ++ [j]) = some (o0 + o, l2) := by exact rfl) (hd : dstOk n dst = true := by exact rfl) :
 AL P C n ops (⟨dst, .fieldAddr s x j, ty, pos, after, none⟩ :: rest) Q f L := AL_ev (Ev_fa_ptr hx hf h1 h2) hd h
theorem Yr {s : TypeId} {x : Operand} {l l1 l2 : Lay} {j o0 o : Nat} {p : List Nat} {e : D} (hf : tyField P s j = some (o, true)) (h : AL P C n ops rest Q (updo f dst (.d (.rp l e (p ++ [j])))) L) (hx : ev f x = .d (.rp l e p) := by exact rfl) (h1 : l.at? p = some (o0, l1) := by exact rfl) (h2 : l.at? (p ++ [j]) = some (o0 + o, l2) := by exact rfl) (hd : dstOk n dst = true := by exact rfl) :
 AL P C n ops (⟨dst, .fieldAddr s x j, ty, pos, after, none⟩ :: rest) Q f L := AL_ev (Ev_fa_rp hx hf h1 h2) hd h
theorem Yl {t : TypeId} {x : Operand} {l l' l'' : Lay} {i k o m : Nat} {p : List Nat} {bx : Box} {e y : V} (hs : tySize P t = some m) (ha : tyAgg P t = some false) (h : AL P C n ops rest Q (updo f dst y) L) (hx : ev f x = .ptr l i k p := by exact rfl) (hL : L[i]? = some (some bx) := by exact rfl) (hbl : bx.l = l := by exact rfl) (he : bx.es[k]? = some e := by exact rfl)
 (hp : e.at? l p = some (o, l', y) := by exact rfl) (hq : l.at? p = some (o, l'') := by exact rfl) (hm : m = l'.len := by exact rfl) (hag : y.isAgg = false := by exact rfl) (h1 : l'.len = 1 := by exact rfl) (hd : dstOk n dst = true := by exact rfl) :
 AL P C n ops (⟨dst, .load t x, ty, pos, after, none⟩ :: rest) Q f L := AL_ev (Ev_load_ptr hx hL hbl he hp hq (hm ▸ hs) ha hag fun _ => h1) hd h
theorem YL {t : TypeId} {x : Operand} {l l' l'' : Lay} {i k o m : Nat} {p : List Nat} {bx : Box} {e y : V} (hs : tySize P t = some m) (ha : tyAgg P t = some true) (h : AL P C n ops rest Q (updo f dst y) L) (hx : ev f x = .ptr l i k p := by exact rfl) (hL : L[i]? = some (some bx) := by exact rfl) (hbl : bx.l = l := by exact rfl) (he : bx.es[k]? = some e := by exact rfl)
 (hp : e.at? l p = some (o, l', y) := by exact rfl) (hq : l.at? p = some (o, l'') := by exact rfl) (hm : m = l'.len := by exact rfl) (hag : y.isAgg = true := by first | exact rfl | assumption | simp) (hd : dstOk n dst = true := by exact rfl) :
 AL P C n ops (⟨dst, .load t x, ty, pos, after, none⟩ :: rest) Q f L := AL_ev (Ev_load_ptr hx hL hbl he hp hq (hm ▸ hs) ha hag (by intro h; cases h)) hd h
theorem Yp {t : TypeId} {x : Operand} {l l' l'' : Lay} {o m : Nat} {p : List Nat} {e y : D} (hs : tySize P t = some m) (ha : tyAgg P t = some false) (h : AL P C n ops rest Q (updo f dst (.d y)) L) (hx : ev f x = .d (.rp l e p) := by exact rfl)
 (hp : e.at? l p = some (o, l', y) := by exact rfl) (hq : l.at? p = some (o, l'') := by exact rfl) (hm : m = l'.len := by exact rfl) (hag : y.isAgg = false := by exact rfl) (h1 : l'.len = 1 := by exact rfl) (hd : dstOk n dst = true := by exact rfl) :
 AL P C n ops (⟨dst, .load t x, ty, pos, after, none⟩ :: rest) Q f L := AL_ev (Ev_load_rp hx hp hq (hm ▸ hs) ha hag fun _ => h1) hd h
theorem YP {t : TypeId} {x : Operand} {l l' l'' : Lay} {o m : Nat} {p : List Nat} {e y : D} (hs : tySize P t = some m) (ha : tyAgg P t = some true) (h : AL P C n ops rest Q (updo f dst (.d y)) L) (hx : ev f x = .d (.rp l e p) := by exact rfl)
 (hp : e.at? l p = some (o, l', y) := by exact rfl) (hq : l.at? p = some (o, l'') := by exact rfl) (hm : m = l'.len := by exact rfl) (hag : y.isAgg = true := by first | exact rfl | assumption | simp) (hd : dstOk n dst = true := by exact rfl) :
 AL P C n ops (⟨dst, .load t x, ty, pos, after, none⟩ :: rest) Q f L := AL_ev (Ev_load_rp hx hp hq (hm ▸ hs) ha hag (by intro h; cases h)) hd h
theorem Ys {t : TypeId} {x y : Operand} {l l' l'' : Lay} {i k o m : Nat} {p : List Nat} {bx : Box} {e e0 e' v : V} (hs : tySize P t = some m) (h : AL P C n ops rest Q (updo f dst .any) (L.set i (some { bx with es := bx.es.set k e' })))
 (hx : ev f x = .ptr l i k p := by exact rfl) (hy : ev f y = v := by exact (nf rfl)) (hk : v.known = true := by exact rfl) (hL : L[i]? = some (some bx) := by exact rfl) (hbl : bx.l = l := by exact rfl) (he : bx.es[k]? = some e := by exact rfl) (hp : e.at? l p = some (o, l', e0) := by exact rfl) (hq : l.at? p = some (o, l'') := by exact rfl) (hlen : v.len? = l'.len := by first | exact rfl | assumption | simp [Lay.len, Lay.lens]) (hm : m = l'.len := by exact rfl) (hput : e.put? p v = some e' := by exact rfl) (hd : dstOk n dst = true := by exact rfl) :
 AL P C n ops (⟨dst, .store t x y, ty, pos, after, none⟩ :: rest) Q f L := AL_store hx hy hk hL hbl he hp hq hlen (hm ▸ hs) hput hd h
theorem Yi {t e : TypeId} {x y : Operand} {k : IntKind} {j : Int} {l : Lay} {xs : List D} {z : D} {m : Nat} (ht : tyElem P t = some e) (hs : tySize P e = some m) (h : AL P C n ops rest Q (updo f dst (.d (.rp l z []))) L) (hx : ev f x = .d (.sl l xs) := by exact rfl) (hy : ev f y = .d (.c (.int k j)) := by exact rfl) (hm : m = l.len := by exact rfl) (h0 : 0 ≤ j := by omega) (hz : xs[j.toNat]? = some z := by assumption) (hd : dstOk n dst = true := by exact rfl) :
 AL P C n ops (⟨dst, .indexAddr t x y, ty, pos, after, none⟩ :: rest) Q f L := AL_ev (Ev_ix_sl hx hy ht (hm ▸ hs) h0 hz) hd h
theorem Zq {P : Program} {k : FuncId} {fn : Func} (hf : P.funcs[k]? = some fn) (hb : fn.body.isNone = false := by kernel_rfl) (hn : (fn.name == "runtime.NumGoroutine") = false := by kernel_rfl) : Callable P k := Callable_of hf hb hn
theorem Zr {fn : Func} {post : List D → Prop} {x : Tmp} {d : D} (hdm : ∀ b, ¬ C.Dm b) (h3 : post [d]) (hx : fn.results.toList = [.tmp x] := by exact rfl) (h1 : f x = .d d := by exact rfl) : Fin C n (retQ fn P C.w0 C.S0 post .ret) f L := by
 refine ret_ok hdm (vs := [.d d]) ?_ (.cons .d .nil) h3
 rw [hx]; exact .tmp h1 rfl .nil
end
section
variable {P : Program} {C : Cx} {n : Nat} {ops : Array Oper} {qt : List Nat} {Q : AQ} {f : Fr} {L : Hp} {dst : Option Tmp} {op : Op} {ty : TypeId} {pos : String} {after : Array Edge} {i : Nat} {r : List Nat}
theorem Zd {K : Act → World → Prop} {Q2 : AQ} {y : Code} (hK : ∀ C f L, AC P C n y Q2 f L → Fin C n K f L) (k : AC P C n y Q2 f L) (hQ : Fin C n K f L → Fin C n (Q .normal) f L := by exact id) : DT P n ops qt C Q [] f L := .nil (hQ (hK _ _ _ k))
theorem Df {j s : Nat} {want : Bool} (h : DT P n ops qt C Q r (updo f dst (.tup [])) L) (ho : ops[i]? = some ⟨dst, op, ty, pos, after, some (j, want)⟩ := by exact rfl) (hj : (ops[j]?).bind (·.dst) = some s := by exact rfl) (hs : Nat.blt s n = true := by exact rfl) (hv : f s = bl (!want) := by exact rfl) (hd : dstOk n dst = true := by exact rfl) : DT P n ops qt C Q (i :: r) f L := DT_f ho hj hs hv hd h
theorem Du {j s : Nat} {want : Bool} (h : DT P n ops qt C Q r (updo f dst (.tup [])) L) (ho : ops[i]? = some ⟨dst, op, ty, pos, after, some (j, want)⟩ := by exact rfl) (hj : (ops[j]?).bind (·.dst) = some s := by exact rfl) (hs : Nat.blt s n = true := by exact rfl) (hv : f s = .tup [] := by exact rfl) (hd : dstOk n dst = true := by exact rfl) : DT P n ops qt C Q (i :: r) f L := DT_u ho hj hs hv hd h
end
section
variable {f : Fr} {L : Hp}
theorem Sl_ {src : List (Option Nat)} {sl : List (Nat × V)} (h : SlTo L src f sl := by repeat' first | exact SlTo_nil | refine SlTo_cons ?_ ?_ | exact .rd .d | exact .ptr rfl | exact .ref rfl | exact .any | exact Vw_int (by omega) | exact .rd (.ptr (srcFree rfl) rfl rfl rfl .d) | exact Vw_refe rfl (by first | rfl | simp | (simp; omega))) : SlTo L src f sl := h
theorem Bx {src : List (Option Nat)} {j i : Nat} {b1 b2 : Box} {r : Hp} (h5 : VwL L src b1.es b2.es) (h : BxTo L src (j + 1) r) (h1 : srcOf src j = some i := by exact rfl) (h2 : L[i]? = some (some b1) := by exact rfl) (h3 : b1.ty = b2.ty := by exact rfl) (h4 : b1.l = b2.l := by exact rfl) : BxTo L src j (some b2 :: r) := BxTo_some h1 h2 h3 h4 h5 h
end
end Go.Eng
set_option linter.unusedVariables false
set_option linter.unusedSimpArgs false
namespace Go.Proofs.YtjgliechbnommaaGreatDoor
open Go.Eng
theorem tz41 : tyZero Tryz.prog 41 = some (some (.agg #[.int .i64 0, .string ⟨#[]⟩, .int .i64 0, .slice none 0 0])) := by kernel_rfl
theorem cl127 : Callable Tryz.prog 127 := Zq Tryz.func127
theorem cl128 : Callable Tryz.prog 128 := Zq Tryz.func128
theorem cl143 : Callable Tryz.prog 143 := Zq Tryz.func143
theorem cl163 : Callable Tryz.prog 163 := Zq Tryz.func163
theorem fa41_0 : tyField Tryz.prog 41 0 = some (0, true) := by kernel_rfl
theorem fa41_2 : tyField Tryz.prog 41 2 = some (2, true) := by kernel_rfl
theorem fa41_3 : tyField Tryz.prog 41 3 = some (3, true) := by kernel_rfl
theorem follows : Tryz.prog.follows .mixedOrders = true := by kernel_rfl
theorem ta3 : tyAgg Tryz.prog 3 = some false := by kernel_rfl
theorem ta39 : tyAgg Tryz.prog 39 = some false := by kernel_rfl
theorem ta41 : tyAgg Tryz.prog 41 = some true := by kernel_rfl
theorem tb41 : tyBytes Tryz.prog 41 = some 56 := by kernel_rfl
theorem te39 : tyElem Tryz.prog 39 = some 41 := by kernel_rfl
theorem tpl41 : tyPlaces Tryz.prog 41 = some (layPlaces 0 [.one, .one, .one, .one]) := by kernel_rfl
theorem ts3 : tySize Tryz.prog 3 = some 1 := by kernel_rfl
theorem ts39 : tySize Tryz.prog 39 = some 1 := by kernel_rfl
theorem ts41 : tySize Tryz.prog 41 = some 4 := by kernel_rfl
theorem zo41 : ZeroOf Tryz.prog 41 (Lay.st [.one, .one, .one, .one]) (.d (.agg [.one, .one, .one, .one] [.c (.int .i64 0), .c (.string ⟨#[]⟩), .c (.int .i64 0), .c (.slice none 0 0)])) := ⟨_, tz41, rfl, fun _ _ _ => VC_cells rfl⟩
set_option maxHeartbeats 1000000 in
set_option maxRecDepth 4000 in
theorem c_renamed (g : Int → Int) (kk : FuncId) (caps : List D) (hcl : Callable Tryz.prog kk) (hna : caps.all (fun d => !d.isAgg) = true) (hto : ∀ m, PCall Tryz.prog kk ([.c (.int .i64 m)] ++ caps) (· = [.c (.int .i64 (g m))])) (t : T) : PCall Tryz.prog 127 [inj t, .fn kk caps] (· = [inj (rn g t)]) := by
 induction t using T.ind with | h k s m ks ih => ?_
 generalize hm2 : (if k = 1 then g m else m) = m2
 refine PCall_of (n := 35) Tryz.func127 rfl rfl (Nat.le_of_ble_eq_true rfl) fun C hdm hT0 => ?_
 have hT := hT0
 refine Zs fun _ hK1 => ?_
 refine AL_box (Lay.st [.one, .one, .one, .one]) (nf rfl) rfl (by rfl) _ rfl rfl ?_
 refine AL_alloc zo41 _ rfl rfl ?_
 refine Zn hK1 ?_
 refine Zs fun _ hK2 => ?_
 refine YL ts41 ta41 ?_
 refine AL_alloc zo41 _ rfl rfl ?_
 refine Ys ts41 ?_
 refine Zn hK2 ?_
 refine Zs fun _ hK3 => ?_
 refine Ya fa41_3 ?_
 refine Ys ts39 ?_
 refine Zn hK3 ?_
 refine AC_seqJ (fun f L => f = frOf [(1, .d (.fn kk caps)), (2, .ptr LT 0 0 []), (4, .ptr LT 1 0 []), (5, .ptr LT 2 0 [])] ∧ L = [some ⟨41, LT, [.d (inj (.mk k s m ks))]⟩, some ⟨41, LT, [.d zT]⟩, some ⟨41, LT, [.agg [.one, .one, .one, .one] [i64 k, st s, i64 m2, nilsl]]⟩]) ?_ ?_
 ·refine Zs fun _ hK5 => ?_
  refine Ya fa41_0 ?_
  refine Yl ts3 ta3 ?_
  refine Ze (Ev_eql rfl rfl) ?_
  refine Zn hK5 ?_
  refine Zc (fun hc1 => ?_) fun hc1 => ?_
  ·refine AC_region ?_
   refine Zm ?_
   refine Ya fa41_2 ?_
   refine Yl ts3 ta3 ?_
   refine AL_fcall hT rfl hna hcl (hto m) rfl rfl ?_
   refine Ya fa41_2 ?_
   refine Ys ts3 ?_
   refine AL_nil ?_
   simp only [decide_eq_true_eq, decide_eq_false_iff_not] at hc1
   refine joinS [some 0, some 1, some 2] rfl rfl (Bx (.cons (.rd .d) .nil) (Bx (.cons (.rd .d) .nil) (BxTo_some rfl rfl rfl rfl (.cons (.agg (.cons (.rd .d) (.cons (.rd .d) (.cons (Vw_int (by subst hm2; rw [if_pos hc1])) (.cons (.rd .d) .nil))))) .nil) BxTo_nil))) Sl_
  ·refine AC_skip ?_
   simp only [decide_eq_true_eq, decide_eq_false_iff_not] at hc1
   refine joinS [some 0, some 1, some 2] rfl rfl (Bx (.cons (.rd .d) .nil) (Bx (.cons (.rd .d) .nil) (BxTo_some rfl rfl rfl rfl (.cons (.agg (.cons (.rd .d) (.cons (.rd .d) (.cons (Vw_int (by subst hm2; rw [if_neg hc1])) (.cons (.rd .d) .nil))))) .nil) BxTo_nil))) Sl_
 ·rintro f L ⟨rfl, rfl⟩
  refine AC_seq fun _ hK6 => ?_
  refine Zs fun _ hK7 => ?_
  refine Ya fa41_3 ?_
  refine Yl ts39 ta39 ?_
  refine AL_lim (x := (Operand.tmp 19)) rfl fun hl1 => ?_
  try simp only [injs_length, ints_length, strs_length, injCs_length, u8s_length, List.length_map] at hl1
  refine Ze (Ev_len_injs te39 rfl) ?_
  refine Zm ?_
  refine Zn hK7 ?_
  refine AC_block ?_
  refine AC_loopS [1, 2, 4, 5, 19, 20] (Nat) (fun j => [(21, i64 j)]) (fun j => [some ⟨41, LT, [.d (inj (.mk k s m ks))]⟩, some ⟨41, LT, [.d zT]⟩, some ⟨41, LT, [.agg [.one, .one, .one, .one] [i64 k, st s, i64 m2, .ref LT 3 0 j]]⟩, some ⟨41, LT, (injs (rnL g (ks.take j))).map V.d⟩]) (fun j => ks.length - j) (fun j => j ≤ ks.length) (0) ?_ ?_ ?_
  ·refine Wk.then (Wk_nil_box 2 0 [3] 41 LT rfl rfl rfl rfl 3 rfl rfl ?_)
   exact enterS [some 0, some 1, some 2, some 3] rfl rfl (Bx (.cons (.rd .d) .nil) (Bx (.cons (.rd .d) .nil) (Bx (.cons (.agg (.cons (.rd .d) (.cons (.rd .d) (.cons (.rd .d) (.cons (.ref rfl) .nil))))) .nil) (Bx .nil BxTo_nil)))) Sl_
  ·exact Nat.zero_le _
  intro j hj
  refine Zs fun _ hK8 => ?_
  refine Ze (Ev_lss rfl rfl) ?_
  refine Zn hK8 ?_
  refine AC_seq fun _ hK9 => ?_
  refine Zc (fun hc2 => ?_) fun hc2 => ?_
  ·have hlt : j < ks.length := by simpa [injs_length] using hc2
   obtain ⟨u, hu⟩ : ∃ u, ks[j]? = some u := ⟨_, List.getElem?_eq_getElem hlt⟩
   have hu2 := injs_get hu
   refine Zk hK9 ?_
   refine AC_seq fun _ hK10 => ?_
   refine AC_block ?_
   refine Zs fun _ hK11 => ?_
   refine Yi te39 ts41 ?_
   refine YP ts41 ta41 ?_
   refine AL_alloc zo41 _ rfl rfl ?_
   refine Ys ts41 ?_
   refine Zn hK11 ?_
   refine AC_draw hT follows [0, 1, 2, 3, 4, 5, 6, 7, 8] (by kernel_rfl) ?_
   refine DT_ev rfl (EA_fa_ptr rfl fa41_3 rfl rfl) rfl ?_
   refine DT_ev rfl (EA_load_ptr rfl rfl rfl rfl rfl rfl ts39 ta39 rfl (fun _ => rfl)) rfl ?_
   refine DT_ev rfl (EA_load_ptr rfl rfl rfl rfl rfl rfl ts41 ta41 (by simp) (by intro h; cases h)) rfl ?_
   refine DT_ev rfl (EA_move) rfl ?_
   refine DT_fcall0 rfl rfl cl127 (ih u (List.mem_of_getElem? hu)) rfl rfl ?_
   refine DT_bD (Lay.st [.one, .one, .one, .one]) rfl rfl te39 ts41 tz41 rfl rfl (by decide) (by decide) (by simp [lenDs, goodVs, goodV, V.known, Lay.len, Lay.lens]) rfl ?_
   refine DT_append_sl rfl rfl rfl rfl rfl te39 ts41 tz41 rfl tb41 (by decide) (by decide) rfl (by (simp; omega)) (by simp only [lim]; (simp; omega)) _ rfl rfl ?_
   refine DT_ev rfl (EA_fa_ptr rfl fa41_3 rfl rfl) rfl ?_
   refine DT_store rfl rfl (nf rfl) rfl rfl rfl rfl rfl rfl (by rfl) ts39 rfl rfl ?_
   refine Zd hK10 ?_
   refine AC_region ?_
   refine Ze (Ev_add rfl rfl _ (wrap_id (by omega) (by omega))) ?_
   refine Zm ?_
   refine AL_nil ?_
   refine closeS (j + 1) [some 0, some 1, some 2, some 5] rfl rfl (by show ks.length - (j + 1) < ks.length - j; omega) hlt (Bx (.cons (.rd .d) .nil) (Bx (.cons (.rd .d) .nil) (Bx (.cons (.agg (.cons (.rd .d) (.cons (.rd .d) (.cons (.rd .d) (.cons (.ref rfl) .nil))))) .nil) (BxTo_some rfl rfl rfl rfl (VwL_app (by rw [rnL_map, rnL_map]; exact injs_take_map (rn g) hu)) BxTo_nil)))) Sl_
  ·refine Zx hK6 ?_
   refine Zs fun _ hK12 => ?_
   refine YL ts41 ta41 ?_
   refine Ys ts41 ?_
   refine Zn hK12 ?_
   refine AC_ret ?_
   have hj2 : j = ks.length := by
    have : ¬ j < ks.length := by simpa [injs_length] using hc2
    omega
   subst hj2
   subst hm2
   refine ret_ok hdm (.cell rfl rfl rfl rfl rfl rfl ts41 ta41 rfl (by intro h; cases h) .nil) (.cons (.agg (.cons .d (.cons .d (.cons .d (.cons (.ref trivial rfl rfl (by simp) (ReadsL_d _)) .nil))))) .nil) ?_
   rw [List.take_length]
   rfl
set_option maxHeartbeats 1000000 in
set_option maxRecDepth 4000 in
theorem c_id (m : Int) : PCall Tryz.prog 128 [.c (.int .i64 m)] (· = [.c (.int .i64 m)]) := by
 refine PCall_of (n := 4) Tryz.func128 rfl rfl (Nat.le_of_ble_eq_true rfl) fun C hdm hT0 => ?_
 have hT := hT0
 refine Zs fun _ hK1 => ?_
 refine Za ?_
 refine Zn hK1 ?_
 refine Zs fun _ hK2 => ?_
 refine Zm ?_
 refine Za ?_
 refine Zn hK2 ?_
 refine AC_ret ?_
 exact Zr hdm rfl
set_option maxHeartbeats 1000000 in
set_option maxRecDepth 4000 in
theorem c_copyTerm (t : T) : PCall Tryz.prog 102 [inj t] (· = [inj t]) := by
 refine PCall_of (n := 5) Tryz.func102 rfl rfl (Nat.le_of_ble_eq_true rfl) fun C hdm hT0 => ?_
 have hT := hT0
 refine Zs fun _ hK1 => ?_
 refine AL_box (Lay.st [.one, .one, .one, .one]) (nf rfl) rfl (by simp [Lay.len, Lay.lens]) _ rfl rfl ?_
 refine AL_alloc zo41 _ rfl rfl ?_
 refine Zn hK1 ?_
 refine Zs fun _ hK2 => ?_
 refine YL ts41 ta41 ?_
 refine AL_fcall0 hT rfl cl127 (c_renamed id 128 [] cl128 rfl (fun m => c_id m) t) rfl rfl ?_
 refine Ys ts41 ?_
 refine Zn hK2 ?_
 refine AC_ret ?_
 exact ret_ok hdm (.cell rfl rfl rfl rfl rfl rfl ts41 ta41 (by simp) (by intro h; cases h) .nil) (.cons .d .nil) (by rw [rn_id])
set_option maxHeartbeats 1000000 in
set_option maxRecDepth 4000 in
theorem c_two (s : ByteArray) (a b : T) : PCall Tryz.prog 121 [.c (.string s), inj a, inj b] (· = [inj (.mk 4 s 0 [a, b])]) := by
 refine PCall_of (n := 12) Tryz.func121 rfl rfl (Nat.le_of_ble_eq_true rfl) fun C hdm hT0 => ?_
 have hT := hT0
 refine Zs fun _ hK1 => ?_
 refine AL_box (Lay.st [.one, .one, .one, .one]) (nf rfl) rfl (by simp [Lay.len, Lay.lens]) _ rfl rfl ?_
 refine AL_box (Lay.st [.one, .one, .one, .one]) (nf rfl) rfl (by simp [Lay.len, Lay.lens]) _ rfl rfl ?_
 refine AL_alloc zo41 _ rfl rfl ?_
 refine Zn hK1 ?_
 refine Zs fun _ hK2 => ?_
 refine Zm ?_
 refine YL ts41 ta41 ?_
 refine YL ts41 ta41 ?_
 refine AL_bD (Lay.st [.one, .one, .one, .one]) rfl te39 ts41 tz41 rfl rfl (by decide) (by decide) (by simp [lenDs, goodVs, goodV, V.known, Lay.len, Lay.lens]) rfl ?_
 refine Ze (Ev_build (fs := [.one, .one, .one, .one]) (zs := [.c (.int .i64 0), .c (.string ⟨#[]⟩), .c (.int .i64 0), .c (.slice none 0 0)]) tz41 rfl tpl41 (.cons rfl rfl (by rfl) (.cons rfl rfl (by rfl) (.cons rfl rfl (by rfl) .nil)))) ?_
 refine Ys ts41 ?_
 refine Zn hK2 ?_
 refine AC_ret ?_
 exact ret_ok hdm (.cell rfl rfl rfl rfl rfl rfl ts41 ta41 rfl (by intro h; cases h) .nil) (.cons (.agg (.cons .d (.cons .d (.cons .d (.cons .d .nil))))) .nil) rfl
set_option maxHeartbeats 1000000 in
set_option maxRecDepth 4000 in
theorem c_l34Terms (ks : List T) (ih : ∀ u ∈ ks, PCall Tryz.prog 143 [inj u] (· = [inj u])) : PCall Tryz.prog 163 [.sl LT (injs ks)] (· = [.sl LT (injs ks)]) := by
 refine PCall_of (n := 21) Tryz.func163 rfl rfl (Nat.le_of_ble_eq_true rfl) fun C hdm hT0 => ?_
 have hT := hT0
 refine Zs fun _ hK1 => ?_
 refine Za ?_
 refine Zn hK1 ?_
 refine Zs fun _ hK2 => ?_
 refine AL_bV (Lay.st [.one, .one, .one, .one]) rfl te39 ts41 tz41 rfl rfl (by decide) (by decide) (by rfl) _ rfl rfl ?_
 refine Za ?_
 refine Zn hK2 ?_
 refine AC_seq fun _ hK3 => ?_
 refine Zs fun _ hK4 => ?_
 refine Za ?_
 refine Zn hK4 ?_
 refine AC_block ?_
 refine AC_loopS [0] (Nat) (fun j => [(3, .ref LT 0 0 j), (4, i64 j)]) (fun j => [some ⟨41, LT, (injs (ks.take j)).map V.d⟩]) (fun j => ks.length - j) (fun j => j ≤ ks.length) (0) ?_ ?_ ?_
 ·exact enterS [some 0] rfl rfl (Bx .nil BxTo_nil) Sl_
 ·exact Nat.zero_le _
 intro j hj
 refine AC_seq fun _ hK5 => ?_
 refine Zs fun _ hK6 => ?_
 iterate 2 refine Zm ?_
 refine AL_lim (x := (Operand.tmp 7)) rfl fun hl1 => ?_
 try simp only [injs_length, ints_length, strs_length, injCs_length, u8s_length, List.length_map] at hl1
 refine Ze (Ev_len_injs te39 rfl) ?_
 refine Ze (Ev_lss rfl rfl) ?_
 refine Zn hK6 ?_
 refine Zc (fun hc1 => ?_) fun hc1 => ?_
 ·have hlt : j < ks.length := by simpa [injs_length] using hc1
  obtain ⟨u, hu⟩ : ∃ u, ks[j]? = some u := ⟨_, List.getElem?_eq_getElem hlt⟩
  have hu2 := injs_get hu
  refine Zk hK5 ?_
  refine AC_seq fun _ hK7 => ?_
  refine AC_block ?_
  refine AC_region ?_
  iterate 3 refine Zm ?_
  refine Yi te39 ts41 ?_
  refine YP ts41 ta41 ?_
  refine AL_fcall0 hT rfl cl143 (ih u (List.mem_of_getElem? hu)) rfl rfl ?_
  refine AL_bD (Lay.st [.one, .one, .one, .one]) rfl te39 ts41 tz41 rfl rfl (by decide) (by decide) (by simp [lenDs, goodVs, goodV, V.known, Lay.len, Lay.lens]) rfl ?_
  refine AL_append rfl rfl rfl te39 ts41 tz41 rfl tb41 (by decide) (by decide) rfl (by (simp; omega)) (Src_sl rfl) (by simp only [lim]; (simp; omega)) _ rfl rfl ?_
  refine Za ?_
  refine Zn hK7 ?_
  refine AC_region ?_
  refine Zm ?_
  refine Ze (Ev_add rfl rfl _ (wrap_id (by omega) (by omega))) ?_
  refine Za ?_
  refine AL_nil ?_
  refine closeS (j + 1) [some 1] rfl rfl (by show ks.length - (j + 1) < ks.length - j; omega) hlt (BxTo_some rfl rfl rfl rfl (VwL_app (by rw [injs_take_get hu])) BxTo_nil) Sl_
 ·refine Zx hK3 ?_
  refine Zs fun _ hK8 => ?_
  refine Zm ?_
  refine Za ?_
  refine Zn hK8 ?_
  refine AC_ret ?_
  have hj2 : j = ks.length := by
   have : ¬ j < ks.length := by simpa [injs_length] using hc1
   omega
  subst hj2
  refine ret_ok hdm (.tmp rfl rfl .nil) (.cons (.ref trivial rfl rfl (by simp) (ReadsL_d _)) .nil) (by rw [List.take_length])
set_option maxHeartbeats 1000000 in
set_option maxRecDepth 4000 in
theorem c_l34Term (t : T) : PCall Tryz.prog 143 [inj t] (· = [inj t]) := by
 induction t using T.ind with | h k s m ks ih => ?_
 refine PCall_of (n := 8) Tryz.func143 rfl rfl (Nat.le_of_ble_eq_true rfl) fun C hdm hT0 => ?_
 have hT := hT0
 refine Zs fun _ hK1 => ?_
 refine AL_box (Lay.st [.one, .one, .one, .one]) (nf rfl) rfl (by rfl) _ rfl rfl ?_
 refine AL_alloc zo41 _ rfl rfl ?_
 refine Zn hK1 ?_
 refine Zs fun _ hK2 => ?_
 refine Ya fa41_3 ?_
 refine Yl ts39 ta39 ?_
 refine AL_fcall0 hT rfl cl163 (c_l34Terms ks ih) rfl rfl ?_
 refine Ya fa41_3 ?_
 refine Ys ts39 ?_
 refine Zn hK2 ?_
 refine Zs fun _ hK3 => ?_
 refine YL ts41 ta41 ?_
 refine Ys ts41 ?_
 refine Zn hK3 ?_
 refine AC_ret ?_
 exact ret_ok hdm (.cell rfl rfl rfl rfl rfl rfl ts41 ta41 rfl (by intro h; cases h) .nil) (.cons (by exact .agg (.cons .d (.cons .d (.cons .d (.cons .d .nil))))) .nil) rfl
end Go.Proofs.YtjgliechbnommaaGreatDoor
set_option linter.unusedVariables false
set_option linter.unusedSimpArgs false
namespace Go.Proofs.YtjgliechbnommaaGreatDoor
open Go.Eng
theorem cl116 : Callable Tryz.prog 116 := Zq Tryz.func116
theorem cl117 : Callable Tryz.prog 117 := Zq Tryz.func117
theorem cl124 : Callable Tryz.prog 124 := Zq Tryz.func124
theorem cl138 : Callable Tryz.prog 138 := Zq Tryz.func138
theorem cl147 : Callable Tryz.prog 147 := Zq Tryz.func147
theorem cl86 : Callable Tryz.prog 86 := Zq Tryz.func86
theorem cl96 : Callable Tryz.prog 96 := Zq Tryz.func96
theorem cl97 : Callable Tryz.prog 97 := Zq Tryz.func97
theorem fa41_1 : tyField Tryz.prog 41 1 = some (1, true) := by kernel_rfl
theorem ta9 : tyAgg Tryz.prog 9 = some false := by kernel_rfl
theorem tint3 : tyInt Tryz.prog 3 = some .i64 := by kernel_rfl
theorem ts9 : tySize Tryz.prog 9 = some 1 := by kernel_rfl
theorem tstr9 : tyStr Tryz.prog 9 = true := by kernel_rfl
theorem tund5 : (Tryz.prog.underlying 5).isSome = true := by kernel_rfl
set_option maxHeartbeats 1000000 in
set_option maxRecDepth 4000 in
theorem c_within (n a b : Int) : PCall Tryz.prog 116 [.c (.int .i64 n), .c (.int .i64 a), .c (.int .i64 b)] (· = [.c (.bool (inB n a b))]) := by
 refine PCall_of (n := 15) Tryz.func116 rfl rfl (Nat.le_of_ble_eq_true rfl) fun C hdm hT0 => ?_
 have hT := hT0
 refine Zs fun _ hK1 => ?_
 refine Za ?_
 refine Zn hK1 ?_
 refine Zs fun _ hK2 => ?_
 iterate 2 refine Zm ?_
 refine Ze (Ev_geq rfl rfl) ?_
 refine Zm ?_
 refine Zb 10 (fun hg1 => ?_) fun hg1 => ?_
 ·refine Zt ?_
  refine Zm ?_
  refine Zt ?_
  refine Zm ?_
  refine Zt ?_
  refine Ze (Ev_leq rfl rfl) ?_
  refine Zp ?_
  refine Za ?_
  refine Zn hK2 ?_
  refine AC_ret ?_
  refine Zr hdm ?_
  try simp_all [List.length_pos_iff, inB]
 ·iterate 3 refine Zg ?_
  refine Zp ?_
  refine Za ?_
  refine Zn hK2 ?_
  refine AC_ret ?_
  refine Zr hdm ?_
  try simp_all [List.length_pos_iff, inB]
  try omega
set_option maxHeartbeats 1000000 in
set_option maxRecDepth 4000 in
theorem c_l01In (n a b : Int) : PCall Tryz.prog 138 [.c (.int .i64 n), .c (.int .i64 a), .c (.int .i64 b)] (· = [.c (.bool (inB n a b))]) := by
 refine PCall_of (n := 15) Tryz.func138 rfl rfl (Nat.le_of_ble_eq_true rfl) fun C hdm hT0 => ?_
 have hT := hT0
 refine Zs fun _ hK1 => ?_
 refine Za ?_
 refine Zn hK1 ?_
 refine Zs fun _ hK2 => ?_
 iterate 2 refine Zm ?_
 refine Ze (Ev_geq rfl rfl) ?_
 refine Zm ?_
 refine Zb 10 (fun hg1 => ?_) fun hg1 => ?_
 ·refine Zt ?_
  refine Zm ?_
  refine Zt ?_
  refine Zm ?_
  refine Zt ?_
  refine Ze (Ev_leq rfl rfl) ?_
  refine Zp ?_
  refine Za ?_
  refine Zn hK2 ?_
  refine AC_ret ?_
  refine Zr hdm ?_
  try simp_all [List.length_pos_iff, inB]
 ·iterate 3 refine Zg ?_
  refine Zp ?_
  refine Za ?_
  refine Zn hK2 ?_
  refine AC_ret ?_
  refine Zr hdm ?_
  try simp_all [List.length_pos_iff, inB]
  try omega
set_option maxHeartbeats 1000000 in
set_option maxRecDepth 4000 in
theorem c_nameOk (s : ByteArray) (hs : s.size ≤ 1099511627776) : PCall Tryz.prog 117 [.c (.string s)] (· = [.c (.bool (nameB s))]) := by
 refine PCall_of (n := 31) Tryz.func117 rfl rfl (Nat.le_of_ble_eq_true rfl) fun C hdm hT0 => ?_
 have hT := hT0
 refine Zs fun _ hK1 => ?_
 refine Za ?_
 refine Zn hK1 ?_
 refine AC_seq fun _ hK2 => ?_
 refine Zs fun _ hK3 => ?_
 refine Za ?_
 refine Zn hK3 ?_
 refine AC_block ?_
 refine AC_loopS [0] (Nat) (fun j => [(3, i64 j)]) (fun j => []) (fun st => (bts s).length - st) (fun j => j ≤ (bts s).length ∧ chsOk (bts s) = chsOk ((bts s).drop j)) (0) ?_ ?_ ?_
 ·exact enterS [] rfl rfl BxTo_nil Sl_
 ·exact ⟨Nat.zero_le _, by simp⟩
 rintro j ⟨hj, hI⟩
 show AC _ _ _ _ _ (FS [0] _ [(3, i64 j)]) []
 have hlb : (bts s).length ≤ 1099511627776 := by simpa using hs
 refine AC_seq fun _ hK4 => ?_
 refine Zs fun _ hK5 => ?_
 iterate 2 refine Zm ?_
 refine Ze (Ev_len_str tstr9 rfl) ?_
 refine Ze (Ev_lss rfl rfl) ?_
 refine Zn hK5 ?_
 refine Zc (fun hc1 => ?_) fun hc1 => ?_
 ·have hlt : j < (bts s).length := by simpa using hc1
  obtain ⟨u, hu⟩ : ∃ x, (bts s)[j]? = some x := ⟨_, List.getElem?_eq_getElem hlt⟩
  have hu2 := bts_get hu
  have hdr := drop_get hu
  have hc8 := UInt8.toNat_lt u
  refine Zk hK4 ?_
  refine AC_seq fun _ hK6 => ?_
  refine AC_block ?_
  refine Zs fun _ hK7 => ?_
  iterate 2 refine Zm ?_
  refine Ze (Ev_ix_str tstr9 rfl rfl (by omega) (by assumption)) ?_
  refine Ze (Ev_conv_int tund5 tint3 rfl _ (wrap_id (by omega) (by omega))) ?_
  refine AL_fcall0 hT rfl cl116 (c_within u.toNat 33 126) rfl rfl ?_
  refine Ze (Ev_not rfl) ?_
  refine Zm ?_
  refine Zb 16 (fun hg2 => ?_) fun hg2 => ?_
  ·iterate 4 refine Zg ?_
   refine Zp ?_
   refine Zm ?_
   iterate 4 refine Zg ?_
   refine Zp ?_
   refine Zn hK7 ?_
   refine AC_cond_t rfl ?_
   refine Zs fun _ hK8 => ?_
   refine Za ?_
   refine Zn hK8 ?_
   refine AC_ret ?_
   refine Zr hdm ?_
   try rw [nameB]
   try rw [hI]
   try rw [hdr]
   try simp_all [List.length_pos_iff, chsOk, chOk, inB]
   try omega
  ·refine Zt ?_
   refine Zm ?_
   refine Zt ?_
   refine Zm ?_
   refine Zt ?_
   refine Ze (Ev_ix_str tstr9 rfl rfl (by omega) (by assumption)) ?_
   refine Zt ?_
   refine Ze (Ev_eql rfl rfl) ?_
   refine Zp ?_
   refine Zm ?_
   refine Zb 22 (fun hg3 => ?_) fun hg3 => ?_
   ·iterate 4 refine Zg ?_
    refine Zp ?_
    refine Zn hK7 ?_
    refine AC_cond_t rfl ?_
    refine Zs fun _ hK9 => ?_
    refine Za ?_
    refine Zn hK9 ?_
    refine AC_ret ?_
    refine Zr hdm ?_
    try rw [nameB]
    try rw [hI]
    try rw [hdr]
    try simp_all [List.length_pos_iff, chsOk, chOk, inB]
   ·refine Zt ?_
    refine Zm ?_
    refine Zt ?_
    refine Zm ?_
    refine Zt ?_
    refine Ze (Ev_ix_str tstr9 rfl rfl (by omega) (by assumption)) ?_
    refine Zt ?_
    refine Ze (Ev_eql rfl rfl) ?_
    refine Zp ?_
    refine Zn hK7 ?_
    refine Zc (fun hc4 => ?_) fun hc4 => ?_
    ·refine Zs fun _ hK10 => ?_
     refine Za ?_
     refine Zn hK10 ?_
     refine AC_ret ?_
     refine Zr hdm ?_
     try rw [nameB]
     try rw [hI]
     try rw [hdr]
     try simp_all [List.length_pos_iff, chsOk, chOk, inB]
    ·refine Zk hK6 ?_
     refine AC_region ?_
     refine Zm ?_
     refine Ze (Ev_add rfl rfl _ (wrap_id (by omega) (by omega))) ?_
     refine Za ?_
     refine AL_nil ?_
     refine closeS (j + 1) [] rfl rfl (by show (bts s).length - (j + 1) < (bts s).length - j; omega) ⟨hlt, ?_⟩ BxTo_nil Sl_
     rw [hI]
     try rw [hdr]
     try simp_all [chsOk, chOk, inB]
 ·have hj2 : j = (bts s).length := by
   have : ¬ j < (bts s).length := by simpa using hc1
   omega
  subst hj2
  rw [List.drop_length] at hI
  refine Zx hK2 ?_
  refine Zs fun _ hK11 => ?_
  refine Zm ?_
  refine Ze (Ev_len_str tstr9 rfl) ?_
  refine AL_fcall0 hT rfl cl116 (c_within s.size 1 20) rfl rfl ?_
  refine Za ?_
  refine Zn hK11 ?_
  refine AC_ret ?_
  refine Zr hdm ?_
  try rw [nameB]
  try rw [hI]
  try simp_all [List.length_pos_iff, chsOk, chOk, inB]
set_option maxHeartbeats 1000000 in
set_option maxRecDepth 4000 in
theorem c_l03Name (s : ByteArray) (hs : s.size ≤ 1099511627776) : PCall Tryz.prog 147 [.c (.string s)] (· = [.c (.bool (nameB s))]) := by
 refine PCall_of (n := 35) Tryz.func147 rfl rfl (Nat.le_of_ble_eq_true rfl) fun C hdm hT0 => ?_
 have hT := hT0
 refine Zs fun _ hK1 => ?_
 refine Za ?_
 refine Zn hK1 ?_
 refine AC_seq fun _ hK2 => ?_
 refine Zs fun _ hK3 => ?_
 refine Za ?_
 refine Zn hK3 ?_
 refine AC_block ?_
 refine AC_loopS [0] (Nat) (fun j => [(3, i64 j)]) (fun j => []) (fun st => (bts s).length - st) (fun j => j ≤ (bts s).length ∧ chsOk (bts s) = chsOk ((bts s).drop j)) (0) ?_ ?_ ?_
 ·exact enterS [] rfl rfl BxTo_nil Sl_
 ·exact ⟨Nat.zero_le _, by simp⟩
 rintro j ⟨hj, hI⟩
 show AC _ _ _ _ _ (FS [0] _ [(3, i64 j)]) []
 have hlb : (bts s).length ≤ 1099511627776 := by simpa using hs
 refine AC_seq fun _ hK4 => ?_
 refine Zs fun _ hK5 => ?_
 iterate 2 refine Zm ?_
 refine Ze (Ev_len_str tstr9 rfl) ?_
 refine Ze (Ev_lss rfl rfl) ?_
 refine Zn hK5 ?_
 refine Zc (fun hc1 => ?_) fun hc1 => ?_
 ·have hlt : j < (bts s).length := by simpa using hc1
  obtain ⟨u, hu⟩ : ∃ x, (bts s)[j]? = some x := ⟨_, List.getElem?_eq_getElem hlt⟩
  have hu2 := bts_get hu
  have hdr := drop_get hu
  have hc8 := UInt8.toNat_lt u
  refine Zk hK4 ?_
  refine AC_seq fun _ hK6 => ?_
  refine AC_block ?_
  refine Zs fun _ hK7 => ?_
  iterate 2 refine Zm ?_
  refine Ze (Ev_ix_str tstr9 rfl rfl (by omega) (by assumption)) ?_
  refine Ze (Ev_lss rfl rfl) ?_
  refine Zm ?_
  refine Zb 14 (fun hg2 => ?_) fun hg2 => ?_
  ·iterate 4 refine Zg ?_
   refine Zp ?_
   refine Zm ?_
   iterate 4 refine Zg ?_
   refine Zp ?_
   refine Zm ?_
   iterate 4 refine Zg ?_
   refine Zp ?_
   refine Zn hK7 ?_
   refine AC_cond_t rfl ?_
   refine Zs fun _ hK8 => ?_
   refine Za ?_
   refine Zn hK8 ?_
   refine AC_ret ?_
   refine Zr hdm ?_
   try rw [nameB]
   try rw [hI]
   try rw [hdr]
   try simp_all [List.length_pos_iff, chsOk, chOk, inB]
   try omega
  ·refine Zt ?_
   refine Zm ?_
   refine Zt ?_
   refine Zm ?_
   refine Zt ?_
   refine Ze (Ev_ix_str tstr9 rfl rfl (by omega) (by assumption)) ?_
   refine Zt ?_
   refine Ze (Ev_gtr rfl rfl) ?_
   refine Zp ?_
   refine Zm ?_
   refine Zb 20 (fun hg3 => ?_) fun hg3 => ?_
   ·iterate 4 refine Zg ?_
    refine Zp ?_
    refine Zm ?_
    iterate 4 refine Zg ?_
    refine Zp ?_
    refine Zn hK7 ?_
    refine AC_cond_t rfl ?_
    refine Zs fun _ hK9 => ?_
    refine Za ?_
    refine Zn hK9 ?_
    refine AC_ret ?_
    refine Zr hdm ?_
    try rw [nameB]
    try rw [hI]
    try rw [hdr]
    try simp_all [List.length_pos_iff, chsOk, chOk, inB]
    try omega
   ·refine Zt ?_
    refine Zm ?_
    refine Zt ?_
    refine Zm ?_
    refine Zt ?_
    refine Ze (Ev_ix_str tstr9 rfl rfl (by omega) (by assumption)) ?_
    refine Zt ?_
    refine Ze (Ev_eql rfl rfl) ?_
    refine Zp ?_
    refine Zm ?_
    refine Zb 26 (fun hg4 => ?_) fun hg4 => ?_
    ·iterate 4 refine Zg ?_
     refine Zp ?_
     refine Zn hK7 ?_
     refine AC_cond_t rfl ?_
     refine Zs fun _ hK10 => ?_
     refine Za ?_
     refine Zn hK10 ?_
     refine AC_ret ?_
     refine Zr hdm ?_
     try rw [nameB]
     try rw [hI]
     try rw [hdr]
     try simp_all [List.length_pos_iff, chsOk, chOk, inB]
    ·refine Zt ?_
     refine Zm ?_
     refine Zt ?_
     refine Zm ?_
     refine Zt ?_
     refine Ze (Ev_ix_str tstr9 rfl rfl (by omega) (by assumption)) ?_
     refine Zt ?_
     refine Ze (Ev_eql rfl rfl) ?_
     refine Zp ?_
     refine Zn hK7 ?_
     refine Zc (fun hc5 => ?_) fun hc5 => ?_
     ·refine Zs fun _ hK11 => ?_
      refine Za ?_
      refine Zn hK11 ?_
      refine AC_ret ?_
      refine Zr hdm ?_
      try rw [nameB]
      try rw [hI]
      try rw [hdr]
      try simp_all [List.length_pos_iff, chsOk, chOk, inB]
     ·refine Zk hK6 ?_
      refine AC_region ?_
      refine Zm ?_
      refine Ze (Ev_add rfl rfl _ (wrap_id (by omega) (by omega))) ?_
      refine Za ?_
      refine AL_nil ?_
      refine closeS (j + 1) [] rfl rfl (by show (bts s).length - (j + 1) < (bts s).length - j; omega) ⟨hlt, ?_⟩ BxTo_nil Sl_
      rw [hI]
      try rw [hdr]
      try simp_all [chsOk, chOk, inB]
 ·have hj2 : j = (bts s).length := by
   have : ¬ j < (bts s).length := by simpa using hc1
   omega
  subst hj2
  rw [List.drop_length] at hI
  refine Zx hK2 ?_
  refine Zs fun _ hK12 => ?_
  refine Zm ?_
  refine Ze (Ev_len_str tstr9 rfl) ?_
  refine AL_fcall0 hT rfl cl138 (c_l01In s.size 1 20) rfl rfl ?_
  refine Za ?_
  refine Zn hK12 ?_
  refine AC_ret ?_
  refine Zr hdm ?_
  try rw [nameB]
  try rw [hI]
  try simp_all [List.length_pos_iff, chsOk, chOk, inB]
set_option maxHeartbeats 1000000 in
set_option maxRecDepth 4000 in
theorem c_l03One (k : Int) (s : ByteArray) (m : Int) (ks : List T) (hb : bulk (.mk k s m ks) ≤ 1099511627776) : PCall Tryz.prog 124 [inj (.mk k s m ks)] (· = [.c (.bool (oneB k s m ks.length))]) := by
 obtain ⟨hs, hkl, _⟩ := bulk_mk hb
 refine PCall_of (n := 69) Tryz.func124 rfl rfl (Nat.le_of_ble_eq_true rfl) fun C hdm hT0 => ?_
 have hT := hT0
 refine Zs fun _ hK1 => ?_
 refine AL_box (Lay.st [.one, .one, .one, .one]) (nf rfl) rfl (by rfl) _ rfl rfl ?_
 refine Za ?_
 refine Zn hK1 ?_
 refine AC_seq fun _ hK2 => ?_
 refine Zs fun _ hK3 => ?_
 refine Ya fa41_0 ?_
 refine Yl ts3 ta3 ?_
 refine Zn hK3 ?_
 refine AC_block ?_
 refine Zs fun _ hK4 => ?_
 refine Ze (Ev_eql rfl rfl) ?_
 refine Za ?_
 refine Zn hK4 ?_
 refine Zc (fun hc1 => ?_) fun hc1 => ?_
 ·refine Zs fun _ hK5 => ?_
  refine Ya fa41_2 ?_
  refine Yl ts3 ta3 ?_
  refine AL_fcall0 hT rfl cl138 (c_l01In m 0 99999) rfl rfl ?_
  refine Zm ?_
  refine Zb 10 (fun hg2 => ?_) fun hg2 => ?_
  ·refine Zt ?_
   refine Ya fa41_1 ?_
   refine Zt ?_
   refine Yl ts9 ta9 ?_
   refine Zt ?_
   refine Ze (Ev_seql rfl rfl) ?_
   refine Zp ?_
   refine Zm ?_
   refine Zb 15 (fun hg3 => ?_) fun hg3 => ?_
   ·refine Zt ?_
    refine Ya fa41_3 ?_
    refine Zt ?_
    refine Yl ts39 ta39 ?_
    refine Zt ?_
    refine AL_lim (x := (Operand.tmp 17)) rfl fun hl1 => ?_
    try simp only [injs_length, ints_length, strs_length, injCs_length, u8s_length, List.length_map] at hl1
    refine Ze (Ev_len_injs te39 rfl) ?_
    refine Zt ?_
    refine Ze (Ev_eql rfl rfl) ?_
    refine Zp ?_
    refine Za ?_
    refine Zn hK5 ?_
    refine AC_ret ?_
    refine Zr hdm ?_
    try rw [oneB]
    try simp_all [List.length_pos_iff, inB]
   ·iterate 4 refine Zg ?_
    refine Zp ?_
    refine Za ?_
    refine Zn hK5 ?_
    refine AC_ret ?_
    refine Zr hdm ?_
    try rw [oneB]
    try simp_all [List.length_pos_iff, inB]
  ·iterate 3 refine Zg ?_
   refine Zp ?_
   refine Zm ?_
   iterate 4 refine Zg ?_
   refine Zp ?_
   refine Za ?_
   refine Zn hK5 ?_
   refine AC_ret ?_
   refine Zr hdm ?_
   try rw [oneB]
   try simp_all [List.length_pos_iff, inB]
   try omega
 ·refine Zs fun _ hK6 => ?_
  refine Ze (Ev_eql rfl rfl) ?_
  refine Za ?_
  refine Zn hK6 ?_
  refine Zc (fun hc4 => ?_) fun hc4 => ?_
  ·refine Zs fun _ hK7 => ?_
   refine Ya fa41_1 ?_
   refine Yl ts9 ta9 ?_
   refine AL_fcall0 hT rfl cl147 (c_l03Name s (by omega)) rfl rfl ?_
   refine Zm ?_
   refine Zb 26 (fun hg5 => ?_) fun hg5 => ?_
   ·refine Zt ?_
    refine Ya fa41_2 ?_
    refine Zt ?_
    refine Yl ts3 ta3 ?_
    refine Zt ?_
    refine Ze (Ev_eql rfl rfl) ?_
    refine Zp ?_
    refine Zm ?_
    refine Zb 31 (fun hg6 => ?_) fun hg6 => ?_
    ·refine Zt ?_
     refine Ya fa41_3 ?_
     refine Zt ?_
     refine Yl ts39 ta39 ?_
     refine Zt ?_
     refine AL_lim (x := (Operand.tmp 33)) rfl fun hl2 => ?_
     try simp only [injs_length, ints_length, strs_length, injCs_length, u8s_length, List.length_map] at hl2
     refine Ze (Ev_len_injs te39 rfl) ?_
     refine Zt ?_
     refine Ze (Ev_eql rfl rfl) ?_
     refine Zp ?_
     refine Za ?_
     refine Zn hK7 ?_
     refine AC_ret ?_
     refine Zr hdm ?_
     try rw [oneB]
     try simp_all [List.length_pos_iff, inB]
    ·iterate 4 refine Zg ?_
     refine Zp ?_
     refine Za ?_
     refine Zn hK7 ?_
     refine AC_ret ?_
     refine Zr hdm ?_
     try rw [oneB]
     try simp_all [List.length_pos_iff, inB]
   ·iterate 3 refine Zg ?_
    refine Zp ?_
    refine Zm ?_
    iterate 4 refine Zg ?_
    refine Zp ?_
    refine Za ?_
    refine Zn hK7 ?_
    refine AC_ret ?_
    refine Zr hdm ?_
    try rw [oneB]
    try simp_all [List.length_pos_iff, inB]
  ·refine Zs fun _ hK8 => ?_
   refine Ze (Ev_eql rfl rfl) ?_
   refine Za ?_
   refine Zn hK8 ?_
   refine Zc (fun hc7 => ?_) fun hc7 => ?_
   ·refine Zs fun _ hK9 => ?_
    refine Ya fa41_2 ?_
    refine Yl ts3 ta3 ?_
    refine AL_fcall0 hT rfl cl138 (c_l01In m (-999999999) 999999999) rfl rfl ?_
    refine Zm ?_
    refine Zb 42 (fun hg8 => ?_) fun hg8 => ?_
    ·refine Zt ?_
     refine Ya fa41_1 ?_
     refine Zt ?_
     refine Yl ts9 ta9 ?_
     refine Zt ?_
     refine Ze (Ev_seql rfl rfl) ?_
     refine Zp ?_
     refine Zm ?_
     refine Zb 47 (fun hg9 => ?_) fun hg9 => ?_
     ·refine Zt ?_
      refine Ya fa41_3 ?_
      refine Zt ?_
      refine Yl ts39 ta39 ?_
      refine Zt ?_
      refine AL_lim (x := (Operand.tmp 49)) rfl fun hl3 => ?_
      try simp only [injs_length, ints_length, strs_length, injCs_length, u8s_length, List.length_map] at hl3
      refine Ze (Ev_len_injs te39 rfl) ?_
      refine Zt ?_
      refine Ze (Ev_eql rfl rfl) ?_
      refine Zp ?_
      refine Za ?_
      refine Zn hK9 ?_
      refine AC_ret ?_
      refine Zr hdm ?_
      try rw [oneB]
      try simp_all [List.length_pos_iff, inB]
     ·iterate 4 refine Zg ?_
      refine Zp ?_
      refine Za ?_
      refine Zn hK9 ?_
      refine AC_ret ?_
      refine Zr hdm ?_
      try rw [oneB]
      try simp_all [List.length_pos_iff, inB]
    ·iterate 3 refine Zg ?_
     refine Zp ?_
     refine Zm ?_
     iterate 4 refine Zg ?_
     refine Zp ?_
     refine Za ?_
     refine Zn hK9 ?_
     refine AC_ret ?_
     refine Zr hdm ?_
     try rw [oneB]
     try simp_all [List.length_pos_iff, inB]
     try omega
   ·refine Zs fun _ hK10 => ?_
    refine Ze (Ev_eql rfl rfl) ?_
    refine Za ?_
    refine Zn hK10 ?_
    refine Zc (fun hc10 => ?_) fun hc10 => ?_
    ·refine Zs fun _ hK11 => ?_
     refine Ya fa41_1 ?_
     refine Yl ts9 ta9 ?_
     refine AL_fcall0 hT rfl cl147 (c_l03Name s (by omega)) rfl rfl ?_
     refine Zm ?_
     refine Zb 58 (fun hg11 => ?_) fun hg11 => ?_
     ·refine Zt ?_
      refine Ya fa41_2 ?_
      refine Zt ?_
      refine Yl ts3 ta3 ?_
      refine Zt ?_
      refine Ze (Ev_eql rfl rfl) ?_
      refine Zp ?_
      refine Zm ?_
      refine Zb 63 (fun hg12 => ?_) fun hg12 => ?_
      ·refine Zt ?_
       refine Ya fa41_3 ?_
       refine Zt ?_
       refine Yl ts39 ta39 ?_
       refine Zt ?_
       refine AL_lim (x := (Operand.tmp 65)) rfl fun hl4 => ?_
       try simp only [injs_length, ints_length, strs_length, injCs_length, u8s_length, List.length_map] at hl4
       refine Ze (Ev_len_injs te39 rfl) ?_
       refine Zt ?_
       refine AL_fcall0 hT rfl cl138 (c_l01In ks.length 1 5) rfl rfl ?_
       refine Zp ?_
       refine Za ?_
       refine Zn hK11 ?_
       refine AC_ret ?_
       refine Zr hdm ?_
       try rw [oneB]
       try simp_all [List.length_pos_iff, inB]
      ·iterate 4 refine Zg ?_
       refine Zp ?_
       refine Za ?_
       refine Zn hK11 ?_
       refine AC_ret ?_
       refine Zr hdm ?_
       try rw [oneB]
       try simp_all [List.length_pos_iff, inB]
     ·iterate 3 refine Zg ?_
      refine Zp ?_
      refine Zm ?_
      iterate 4 refine Zg ?_
      refine Zp ?_
      refine Za ?_
      refine Zn hK11 ?_
      refine AC_ret ?_
      refine Zr hdm ?_
      try rw [oneB]
      try simp_all [List.length_pos_iff, inB]
    ·refine Zk hK2 ?_
     refine Zs fun _ hK12 => ?_
     refine Za ?_
     refine Zn hK12 ?_
     refine AC_ret ?_
     refine Zr hdm ?_
     try rw [oneB]
     try simp_all [List.length_pos_iff, inB]
set_option maxHeartbeats 1000000 in
set_option maxRecDepth 4000 in
theorem c_sized (t : T) : bulk t ≤ 1099511627776 → ∀ d : Int, 0 ≤ d → d ≤ 1000 → PCall Tryz.prog 86 [inj t, .c (.int .i64 d)] (· = [.c (.int .i64 (sized t d))]) := by
 induction t using T.ind with | h k s m ks ih => ?_
 intro hb d hd0 hd1
 obtain ⟨hs, hkl, hku⟩ := bulk_mk hb
 refine PCall_of (n := 98) Tryz.func86 rfl rfl (Nat.le_of_ble_eq_true rfl) fun C hdm hT0 => ?_
 have hT := hT0
 refine Zs fun _ hK1 => ?_
 refine AL_box (Lay.st [.one, .one, .one, .one]) (nf rfl) rfl (by rfl) _ rfl rfl ?_
 refine Za ?_
 refine Zn hK1 ?_
 refine AC_seq fun _ hK2 => ?_
 refine Zs fun _ hK3 => ?_
 refine Zm ?_
 refine Ze (Ev_gtr rfl rfl) ?_
 refine Zn hK3 ?_
 refine Zc (fun hc1 => ?_) fun hc1 => ?_
 ·refine Zs fun _ hK4 => ?_
  refine Za ?_
  refine Zn hK4 ?_
  refine AC_ret ?_
  refine Zr hdm ?_
  try rw [sized]
  try simp_all [List.length_pos_iff, sizedL, oneB, inB]
 ·refine Zk hK2 ?_
  refine AC_seqJ (fun f L => (oneB k s m ks.length = true ∧ d ≤ 40) ∧ f = frOf [(1, i64 d), (2, .d (.rp (Lay.st [.one, .one, .one, .one]) (inj (.mk k s m ks)) []))] ∧ L = []) ?_ ?_
  ·refine Zs fun _ hK6 => ?_
   refine Ya fa41_0 ?_
   refine Yl ts3 ta3 ?_
   refine Zn hK6 ?_
   refine AC_block ?_
   refine Zs fun _ hK7 => ?_
   refine Ze (Ev_eql rfl rfl) ?_
   refine Za ?_
   refine Zn hK7 ?_
   refine Zc (fun hc2 => ?_) fun hc2 => ?_
   ·refine Zs fun _ hK8 => ?_
    refine Ya fa41_1 ?_
    refine Yl ts9 ta9 ?_
    refine Ze (Ev_sneq rfl rfl) ?_
    refine Zm ?_
    refine Zb 17 (fun hg3 => ?_) fun hg3 => ?_
    ·iterate 4 refine Zg ?_
     refine Zp ?_
     refine Zm ?_
     iterate 4 refine Zg ?_
     refine Zp ?_
     refine Zn hK8 ?_
     refine AC_cond_t rfl ?_
     refine Zs fun _ hK9 => ?_
     refine Za ?_
     refine Zn hK9 ?_
     refine AC_ret ?_
     refine Zr hdm ?_
     try rw [sized]
     try simp_all [List.length_pos_iff, sizedL, oneB, inB]
    ·refine Zt ?_
     refine Ya fa41_2 ?_
     refine Zt ?_
     refine Yl ts3 ta3 ?_
     refine Zt ?_
     refine AL_fcall0 hT rfl cl116 (c_within m 0 99999) rfl rfl ?_
     refine Zt ?_
     refine Ze (Ev_not rfl) ?_
     refine Zp ?_
     refine Zm ?_
     refine Zb 23 (fun hg4 => ?_) fun hg4 => ?_
     ·iterate 4 refine Zg ?_
      refine Zp ?_
      refine Zn hK8 ?_
      refine AC_cond_t rfl ?_
      refine Zs fun _ hK10 => ?_
      refine Za ?_
      refine Zn hK10 ?_
      refine AC_ret ?_
      refine Zr hdm ?_
      try rw [sized]
      try simp_all [List.length_pos_iff, sizedL, oneB, inB]
      try omega
     ·refine Zt ?_
      refine Ya fa41_3 ?_
      refine Zt ?_
      refine Yl ts39 ta39 ?_
      refine Zt ?_
      refine AL_lim (x := (Operand.tmp 25)) rfl fun hl1 => ?_
      try simp only [injs_length, ints_length, strs_length, injCs_length, u8s_length, List.length_map] at hl1
      refine Ze (Ev_len_injs te39 rfl) ?_
      refine Zt ?_
      refine Ze (Ev_gtr rfl rfl) ?_
      refine Zp ?_
      refine Zn hK8 ?_
      refine Zc (fun hc5 => ?_) fun hc5 => ?_
      ·refine Zs fun _ hK11 => ?_
       refine Za ?_
       refine Zn hK11 ?_
       refine AC_ret ?_
       refine Zr hdm ?_
       try rw [sized]
       try simp_all [List.length_pos_iff, sizedL, oneB, inB]
      ·refine AC_skip ?_
       refine joinF [] rfl rfl ?_ BxTo_nil Sl_
       refine ⟨?_, by simp_all⟩
       try rw [oneB]
       try simp_all [List.length_pos_iff, inB]
   ·refine Zs fun _ hK12 => ?_
    refine Ze (Ev_eql rfl rfl) ?_
    refine Za ?_
    refine Zn hK12 ?_
    refine Zc (fun hc6 => ?_) fun hc6 => ?_
    ·refine Zs fun _ hK13 => ?_
     refine Ya fa41_1 ?_
     refine Yl ts9 ta9 ?_
     refine AL_fcall0 hT rfl cl117 (c_nameOk s (by omega)) rfl rfl ?_
     refine Ze (Ev_not rfl) ?_
     refine Zm ?_
     refine Zb 35 (fun hg7 => ?_) fun hg7 => ?_
     ·iterate 3 refine Zg ?_
      refine Zp ?_
      refine Zm ?_
      iterate 4 refine Zg ?_
      refine Zp ?_
      refine Zn hK13 ?_
      refine AC_cond_t rfl ?_
      refine Zs fun _ hK14 => ?_
      refine Za ?_
      refine Zn hK14 ?_
      refine AC_ret ?_
      refine Zr hdm ?_
      try rw [sized]
      try simp_all [List.length_pos_iff, sizedL, oneB, inB]
     ·refine Zt ?_
      refine Ya fa41_2 ?_
      refine Zt ?_
      refine Yl ts3 ta3 ?_
      refine Zt ?_
      refine Ze (Ev_neq rfl rfl) ?_
      refine Zp ?_
      refine Zm ?_
      refine Zb 40 (fun hg8 => ?_) fun hg8 => ?_
      ·iterate 4 refine Zg ?_
       refine Zp ?_
       refine Zn hK13 ?_
       refine AC_cond_t rfl ?_
       refine Zs fun _ hK15 => ?_
       refine Za ?_
       refine Zn hK15 ?_
       refine AC_ret ?_
       refine Zr hdm ?_
       try rw [sized]
       try simp_all [List.length_pos_iff, sizedL, oneB, inB]
      ·refine Zt ?_
       refine Ya fa41_3 ?_
       refine Zt ?_
       refine Yl ts39 ta39 ?_
       refine Zt ?_
       refine AL_lim (x := (Operand.tmp 42)) rfl fun hl2 => ?_
       try simp only [injs_length, ints_length, strs_length, injCs_length, u8s_length, List.length_map] at hl2
       refine Ze (Ev_len_injs te39 rfl) ?_
       refine Zt ?_
       refine Ze (Ev_gtr rfl rfl) ?_
       refine Zp ?_
       refine Zn hK13 ?_
       refine Zc (fun hc9 => ?_) fun hc9 => ?_
       ·refine Zs fun _ hK16 => ?_
        refine Za ?_
        refine Zn hK16 ?_
        refine AC_ret ?_
        refine Zr hdm ?_
        try rw [sized]
        try simp_all [List.length_pos_iff, sizedL, oneB, inB]
       ·refine AC_skip ?_
        refine joinF [] rfl rfl ?_ BxTo_nil Sl_
        refine ⟨?_, by simp_all⟩
        try rw [oneB]
        try simp_all [List.length_pos_iff, inB]
    ·refine Zs fun _ hK17 => ?_
     refine Ze (Ev_eql rfl rfl) ?_
     refine Za ?_
     refine Zn hK17 ?_
     refine Zc (fun hc10 => ?_) fun hc10 => ?_
     ·refine Zs fun _ hK18 => ?_
      refine Ya fa41_1 ?_
      refine Yl ts9 ta9 ?_
      refine Ze (Ev_sneq rfl rfl) ?_
      refine Zm ?_
      refine Zb 51 (fun hg11 => ?_) fun hg11 => ?_
      ·iterate 4 refine Zg ?_
       refine Zp ?_
       refine Zm ?_
       iterate 4 refine Zg ?_
       refine Zp ?_
       refine Zn hK18 ?_
       refine AC_cond_t rfl ?_
       refine Zs fun _ hK19 => ?_
       refine Za ?_
       refine Zn hK19 ?_
       refine AC_ret ?_
       refine Zr hdm ?_
       try rw [sized]
       try simp_all [List.length_pos_iff, sizedL, oneB, inB]
      ·refine Zt ?_
       refine Ya fa41_2 ?_
       refine Zt ?_
       refine Yl ts3 ta3 ?_
       refine Zt ?_
       refine AL_fcall0 hT rfl cl116 (c_within m (-999999999) 999999999) rfl rfl ?_
       refine Zt ?_
       refine Ze (Ev_not rfl) ?_
       refine Zp ?_
       refine Zm ?_
       refine Zb 57 (fun hg12 => ?_) fun hg12 => ?_
       ·iterate 4 refine Zg ?_
        refine Zp ?_
        refine Zn hK18 ?_
        refine AC_cond_t rfl ?_
        refine Zs fun _ hK20 => ?_
        refine Za ?_
        refine Zn hK20 ?_
        refine AC_ret ?_
        refine Zr hdm ?_
        try rw [sized]
        try simp_all [List.length_pos_iff, sizedL, oneB, inB]
        try omega
       ·refine Zt ?_
        refine Ya fa41_3 ?_
        refine Zt ?_
        refine Yl ts39 ta39 ?_
        refine Zt ?_
        refine AL_lim (x := (Operand.tmp 59)) rfl fun hl3 => ?_
        try simp only [injs_length, ints_length, strs_length, injCs_length, u8s_length, List.length_map] at hl3
        refine Ze (Ev_len_injs te39 rfl) ?_
        refine Zt ?_
        refine Ze (Ev_gtr rfl rfl) ?_
        refine Zp ?_
        refine Zn hK18 ?_
        refine Zc (fun hc13 => ?_) fun hc13 => ?_
        ·refine Zs fun _ hK21 => ?_
         refine Za ?_
         refine Zn hK21 ?_
         refine AC_ret ?_
         refine Zr hdm ?_
         try rw [sized]
         try simp_all [List.length_pos_iff, sizedL, oneB, inB]
        ·refine AC_skip ?_
         refine joinF [] rfl rfl ?_ BxTo_nil Sl_
         refine ⟨?_, by simp_all⟩
         try rw [oneB]
         try simp_all [List.length_pos_iff, inB]
     ·refine Zs fun _ hK22 => ?_
      refine Ze (Ev_eql rfl rfl) ?_
      refine Za ?_
      refine Zn hK22 ?_
      refine Zc (fun hc14 => ?_) fun hc14 => ?_
      ·refine Zs fun _ hK23 => ?_
       refine Ya fa41_1 ?_
       refine Yl ts9 ta9 ?_
       refine AL_fcall0 hT rfl cl117 (c_nameOk s (by omega)) rfl rfl ?_
       refine Ze (Ev_not rfl) ?_
       refine Zm ?_
       refine Zb 69 (fun hg15 => ?_) fun hg15 => ?_
       ·iterate 3 refine Zg ?_
        refine Zp ?_
        refine Zm ?_
        iterate 5 refine Zg ?_
        refine Zp ?_
        refine Zn hK23 ?_
        refine AC_cond_t rfl ?_
        refine Zs fun _ hK24 => ?_
        refine Za ?_
        refine Zn hK24 ?_
        refine AC_ret ?_
        refine Zr hdm ?_
        try rw [sized]
        try simp_all [List.length_pos_iff, sizedL, oneB, inB]
       ·refine Zt ?_
        refine Ya fa41_2 ?_
        refine Zt ?_
        refine Yl ts3 ta3 ?_
        refine Zt ?_
        refine Ze (Ev_neq rfl rfl) ?_
        refine Zp ?_
        refine Zm ?_
        refine Zb 74 (fun hg16 => ?_) fun hg16 => ?_
        ·iterate 5 refine Zg ?_
         refine Zp ?_
         refine Zn hK23 ?_
         refine AC_cond_t rfl ?_
         refine Zs fun _ hK25 => ?_
         refine Za ?_
         refine Zn hK25 ?_
         refine AC_ret ?_
         refine Zr hdm ?_
         try rw [sized]
         try simp_all [List.length_pos_iff, sizedL, oneB, inB]
        ·refine Zt ?_
         refine Ya fa41_3 ?_
         refine Zt ?_
         refine Yl ts39 ta39 ?_
         refine Zt ?_
         refine AL_lim (x := (Operand.tmp 76)) rfl fun hl4 => ?_
         try simp only [injs_length, ints_length, strs_length, injCs_length, u8s_length, List.length_map] at hl4
         refine Ze (Ev_len_injs te39 rfl) ?_
         refine Zt ?_
         refine AL_fcall0 hT rfl cl116 (c_within ks.length 1 5) rfl rfl ?_
         refine Zt ?_
         refine Ze (Ev_not rfl) ?_
         refine Zp ?_
         refine Zn hK23 ?_
         refine Zc (fun hc17 => ?_) fun hc17 => ?_
         ·refine Zs fun _ hK26 => ?_
          refine Za ?_
          refine Zn hK26 ?_
          refine AC_ret ?_
          refine Zr hdm ?_
          try rw [sized]
          try simp_all [List.length_pos_iff, sizedL, oneB, inB]
          try omega
         ·refine AC_skip ?_
          refine joinF [] rfl rfl ?_ BxTo_nil Sl_
          refine ⟨?_, by simp_all⟩
          try rw [oneB]
          try simp_all [List.length_pos_iff, inB]
      ·refine Zs fun _ hK27 => ?_
       refine Za ?_
       refine Zn hK27 ?_
       refine AC_ret ?_
       refine Zr hdm ?_
       try rw [sized]
       try simp_all [List.length_pos_iff, sizedL, oneB, inB]
  ·rintro f L ⟨⟨hF, hd2⟩, rfl, rfl⟩
   refine Zs fun _ hK28 => ?_
   refine Za ?_
   refine Zn hK28 ?_
   refine AC_seq fun _ hK29 => ?_
   refine Zs fun _ hK30 => ?_
   refine Yr fa41_3 ?_
   refine Yp ts39 ta39 ?_
   refine AL_lim (x := (Operand.tmp 82)) rfl fun hl5 => ?_
   try simp only [injs_length, ints_length, strs_length, injCs_length, u8s_length, List.length_map] at hl5
   refine Ze (Ev_len_injs te39 rfl) ?_
   refine Zm ?_
   refine Zn hK30 ?_
   refine AC_block ?_
   refine AC_loopS [1, 82, 83] (Nat × Int) (fun ⟨j, n⟩ => [(84, i64 j), (5, i64 n)]) (fun ⟨j, n⟩ => []) (fun st => ks.length - st.1) (fun ⟨j, n⟩ => j ≤ ks.length ∧ (sizedL ks (d + 1) 1 = sizedL (ks.drop j) (d + 1) n ∧ 0 ≤ n ∧ n ≤ 400)) ((0, 1)) ?_ ?_ ?_
   ·exact enterS [] rfl rfl BxTo_nil Sl_
   ·exact ⟨Nat.zero_le _, by simp⟩
   rintro ⟨j, n⟩ ⟨hj, ⟨hI, hn0, hn1⟩⟩
   show AC _ _ _ _ _ (FS [1, 82, 83] _ [(84, i64 j), (5, i64 n)]) []
   refine Zs fun _ hK31 => ?_
   refine Ze (Ev_lss rfl rfl) ?_
   refine Zn hK31 ?_
   refine AC_seq fun _ hK32 => ?_
   refine Zc (fun hc18 => ?_) fun hc18 => ?_
   ·have hlt : j < ks.length := by simpa using hc18
    obtain ⟨u, hu⟩ : ∃ x, ks[j]? = some x := ⟨_, List.getElem?_eq_getElem hlt⟩
    have hu2 := injs_get hu
    have hdr := drop_get hu
    have hub := sized_bd u (d + 1)
    refine Zk hK32 ?_
    refine AC_seq fun _ hK33 => ?_
    refine AC_block ?_
    refine Zs fun _ hK34 => ?_
    refine Yi te39 ts41 ?_
    refine YP ts41 ta41 ?_
    refine AL_alloc zo41 _ rfl rfl ?_
    refine Ys ts41 ?_
    refine Zn hK34 ?_
    refine Zs fun _ hK35 => ?_
    refine Zm ?_
    refine YL ts41 ta41 ?_
    refine Zm ?_
    refine Ze (Ev_add rfl rfl _ (wrap_id (by omega) (by omega))) ?_
    refine AL_fcall0 hT rfl cl86 (ih u (List.mem_of_getElem? hu) (hku u (List.mem_of_getElem? hu)) (d + 1) (by omega) (by omega)) rfl rfl ?_
    refine Ze (Ev_add rfl rfl _ (wrap_id (by omega) (by omega))) ?_
    refine Za ?_
    refine Zn hK35 ?_
    refine Zs fun _ hK36 => ?_
    refine Zm ?_
    refine Ze (Ev_gtr rfl rfl) ?_
    refine Zn hK36 ?_
    refine Zc (fun hc19 => ?_) fun hc19 => ?_
    ·refine Zs fun _ hK37 => ?_
     refine Za ?_
     refine Zn hK37 ?_
     refine AC_ret ?_
     refine Zr hdm ?_
     try rw [sized]
     try rw [hI]
     try rw [hdr]
     try simp_all [List.length_pos_iff, sizedL, oneB, inB]
    ·refine Zk hK33 ?_
     refine AC_region ?_
     refine Ze (Ev_add rfl rfl _ (wrap_id (by omega) (by omega))) ?_
     refine Zm ?_
     refine AL_nil ?_
     refine closeS (j + 1, n + sized u (d + 1)) [] rfl rfl (by show ks.length - (j + 1) < ks.length - j; omega) ⟨hlt, ?_⟩ BxTo_nil Sl_
     refine ⟨?_, by omega, (by (simp_all; done))⟩
     rw [hI]
     try rw [hdr]
     try simp_all [sizedL]
     try omega
   ·have hj2 : j = ks.length := by
     have : ¬ j < ks.length := by simpa using hc18
     omega
    subst hj2
    rw [List.drop_length] at hI
    refine Zx hK29 ?_
    refine Zs fun _ hK38 => ?_
    refine Zm ?_
    refine Za ?_
    refine Zn hK38 ?_
    refine AC_ret ?_
    refine Zr hdm ?_
    try rw [sized]
    try rw [hI]
    try simp_all [List.length_pos_iff, sizedL, oneB, inB]
    try omega
set_option maxHeartbeats 1000000 in
set_option maxRecDepth 4000 in
theorem c_termOk (t : T) (hb : bulk t ≤ 1099511627776) : PCall Tryz.prog 42 [inj t] (· = [.c (.bool (okT t))]) := by
 refine PCall_of (n := 6) Tryz.func42 rfl rfl (Nat.le_of_ble_eq_true rfl) fun C hdm hT0 => ?_
 have hT := hT0
 refine Zs fun _ hK1 => ?_
 refine AL_box (Lay.st [.one, .one, .one, .one]) (nf rfl) rfl (by simp [Lay.len, Lay.lens]) _ rfl rfl ?_
 refine Za ?_
 refine Zn hK1 ?_
 refine Zs fun _ hK2 => ?_
 refine YL ts41 ta41 ?_
 refine AL_fcall0 hT rfl cl86 (c_sized t hb 1 (by omega) (by omega)) rfl rfl ?_
 refine Ze (Ev_leq rfl rfl) ?_
 refine Za ?_
 refine Zn hK2 ?_
 refine AC_ret ?_
 exact Zr hdm rfl
set_option maxHeartbeats 1000000 in
set_option maxRecDepth 4000 in
theorem c_l03Count (t : T) : bulk t ≤ 1099511627776 → ∀ r : Int, 0 ≤ r → r ≤ 1000 → PCall Tryz.prog 96 [inj t, .c (.int .i64 r)] (· = [.c (.int .i64 (lcount t r))]) := by
 induction t using T.ind with | h k s m ks ih => ?_
 intro hb r hr0 hr1
 obtain ⟨hs, hkl, hku⟩ := bulk_mk hb
 refine PCall_of (n := 27) Tryz.func96 rfl rfl (Nat.le_of_ble_eq_true rfl) fun C hdm hT0 => ?_
 have hT := hT0
 refine Zs fun _ hK1 => ?_
 refine AL_box (Lay.st [.one, .one, .one, .one]) (nf rfl) rfl (by rfl) _ rfl rfl ?_
 refine Za ?_
 refine Zn hK1 ?_
 refine Zs fun _ hK2 => ?_
 refine Zm ?_
 refine Ze (Ev_sub rfl rfl _ (wrap_id (by omega) (by omega))) ?_
 refine Za ?_
 refine Zn hK2 ?_
 refine AC_seq fun _ hK3 => ?_
 refine Zs fun _ hK4 => ?_
 refine Za ?_
 refine Zn hK4 ?_
 refine AC_block ?_
 refine AC_loopS [] (Nat × Int) (fun ⟨j, q⟩ => [(5, i64 j), (1, i64 q), (2, .d (.rp (Lay.st [.one, .one, .one, .one]) (inj (.mk k s m ks)) []))]) (fun ⟨j, q⟩ => []) (fun st => ks.length - st.1) (fun ⟨j, q⟩ => j ≤ ks.length ∧ (lcountL ks (r - 1) = lcountL (ks.drop j) q ∧ -1 ≤ q ∧ q ≤ r)) ((0, r - 1)) ?_ ?_ ?_
 ·exact enterS [] rfl rfl BxTo_nil Sl_
 ·exact ⟨Nat.zero_le _, by simp, by omega, by omega⟩
 rintro ⟨j, q⟩ ⟨hj, ⟨hI, hq0, hq1⟩⟩
 show AC _ _ _ _ _ (FS [] _ [(5, i64 j), (1, i64 q), (2, .d (.rp (Lay.st [.one, .one, .one, .one]) (inj (.mk k s m ks)) []))]) []
 refine AC_seq fun _ hK5 => ?_
 refine Zs fun _ hK6 => ?_
 refine Zm ?_
 refine Yr fa41_3 ?_
 refine Yp ts39 ta39 ?_
 refine AL_lim (x := (Operand.tmp 10)) rfl fun hl1 => ?_
 try simp only [injs_length, ints_length, strs_length, injCs_length, u8s_length, List.length_map] at hl1
 refine Ze (Ev_len_injs te39 rfl) ?_
 refine Ze (Ev_lss rfl rfl) ?_
 refine Zm ?_
 refine Zb 13 (fun hg1 => ?_) fun hg1 => ?_
 ·have hlt : j < ks.length := by simpa using hg1
  obtain ⟨u, hu⟩ : ∃ x, ks[j]? = some x := ⟨_, List.getElem?_eq_getElem hlt⟩
  have hu2 := injs_get hu
  have hdr := drop_get hu
  refine Zt ?_
  refine Zm ?_
  refine Zt ?_
  refine Ze (Ev_geq rfl rfl) ?_
  refine Zp ?_
  refine Zn hK6 ?_
  refine Zc (fun hc2 => ?_) fun hc2 => ?_
  ·refine Zk hK5 ?_
   refine AC_seq fun _ hK7 => ?_
   refine AC_block ?_
   refine AC_region ?_
   refine Yr fa41_3 ?_
   refine Yp ts39 ta39 ?_
   refine Zm ?_
   refine Yi te39 ts41 ?_
   refine YP ts41 ta41 ?_
   refine Zm ?_
   refine AL_fcall0 hT rfl cl96 (ih u (List.mem_of_getElem? hu) (hku u (List.mem_of_getElem? hu)) q (by simpa using hc2) (by omega)) rfl rfl ?_
   refine Za ?_
   refine Zn hK7 ?_
   refine AC_region ?_
   refine Zm ?_
   refine Ze (Ev_add rfl rfl _ (wrap_id (by omega) (by omega))) ?_
   refine Za ?_
   refine AL_nil ?_
   refine closeS (j + 1, lcount u q) [] rfl rfl (by show ks.length - (j + 1) < ks.length - j; omega) ⟨hlt, ?_⟩ BxTo_nil Sl_
   have hq2 : 0 ≤ q := by simpa using hc2
   have hub := lcount_bd u q hq2
   refine ⟨?_, by omega, by omega⟩
   rw [hI, hdr, lcountL, if_pos hq2]
  ·refine Zx hK3 ?_
   refine Zs fun _ hK8 => ?_
   refine Zm ?_
   refine Za ?_
   refine Zn hK8 ?_
   refine AC_ret ?_
   refine Zr hdm ?_
   have hq2 : ¬ 0 ≤ q := by simpa using hc2
   rw [lcount, hI, hdr, lcountL, if_neg hq2]
 ·have hj2 : j = ks.length := by
   have : ¬ j < ks.length := by simpa using hg1
   omega
  subst hj2
  rw [List.drop_length] at hI
  iterate 2 refine Zg ?_
  refine Zp ?_
  refine Zn hK6 ?_
  refine AC_cond_f rfl ?_
  refine Zx hK3 ?_
  refine Zs fun _ hK9 => ?_
  refine Zm ?_
  refine Za ?_
  refine Zn hK9 ?_
  refine AC_ret ?_
  refine Zr hdm ?_
  rw [lcount, hI, lcountL]
set_option maxHeartbeats 1000000 in
set_option maxRecDepth 4000 in
theorem c_l03Right (t : T) : bulk t ≤ 1099511627776 → ∀ d : Int, 0 ≤ d → d ≤ 1000 → PCall Tryz.prog 97 [inj t, .c (.int .i64 d)] (· = [.c (.bool (lright t d))]) := by
 induction t using T.ind with | h k s m ks ih => ?_
 intro hb d hd0 hd1
 obtain ⟨hs, hkl, hku⟩ := bulk_mk hb
 refine PCall_of (n := 29) Tryz.func97 rfl rfl (Nat.le_of_ble_eq_true rfl) fun C hdm hT0 => ?_
 have hT := hT0
 refine Zs fun _ hK1 => ?_
 refine AL_box (Lay.st [.one, .one, .one, .one]) (nf rfl) rfl (by rfl) _ rfl rfl ?_
 refine Za ?_
 refine Zn hK1 ?_
 refine AC_seqJ (fun f L => (d ≤ 40 ∧ oneB k s m ks.length = true) ∧ f = frOf [(1, i64 d), (2, .d (.rp (Lay.st [.one, .one, .one, .one]) (inj (.mk k s m ks)) []))] ∧ L = []) ?_ ?_
 ·refine Zs fun _ hK3 => ?_
  refine Zm ?_
  refine Ze (Ev_gtr rfl rfl) ?_
  refine Zm ?_
  refine Zb 8 (fun hg1 => ?_) fun hg1 => ?_
  ·iterate 3 refine Zg ?_
   refine Zp ?_
   refine Zn hK3 ?_
   refine AC_cond_t rfl ?_
   refine Zs fun _ hK4 => ?_
   refine Za ?_
   refine Zn hK4 ?_
   refine AC_ret ?_
   refine Zr hdm ?_
   try rw [lright]
   try simp_all [List.length_pos_iff, lrightL]
  ·refine Zt ?_
   refine YL ts41 ta41 ?_
   refine Zt ?_
   refine AL_fcall0 hT rfl cl124 (c_l03One k s m ks hb) rfl rfl ?_
   refine Zt ?_
   refine Ze (Ev_not rfl) ?_
   refine Zp ?_
   refine Zn hK3 ?_
   refine Zc (fun hc2 => ?_) fun hc2 => ?_
   ·refine Zs fun _ hK5 => ?_
    refine Za ?_
    refine Zn hK5 ?_
    refine AC_ret ?_
    refine Zr hdm ?_
    try rw [lright]
    try simp_all [List.length_pos_iff, lrightL]
   ·refine AC_skip ?_
    refine joinF [] rfl rfl ?_ BxTo_nil Sl_
    simp_all
 ·rintro f L ⟨⟨hd2, hF⟩, rfl, rfl⟩
  refine AC_seq fun _ hK6 => ?_
  refine Zs fun _ hK7 => ?_
  refine Za ?_
  refine Zn hK7 ?_
  refine AC_block ?_
  refine AC_loopS [1, 2] (Nat) (fun j => [(5, i64 j)]) (fun j => []) (fun st => ks.length - st) (fun j => j ≤ ks.length ∧ lrightL ks (d + 1) = lrightL (ks.drop j) (d + 1)) (0) ?_ ?_ ?_
  ·exact enterS [] rfl rfl BxTo_nil Sl_
  ·exact ⟨Nat.zero_le _, by simp⟩
  rintro j ⟨hj, hI⟩
  show AC _ _ _ _ _ (FS [1, 2] _ [(5, i64 j)]) []
  refine AC_seq fun _ hK8 => ?_
  refine Zs fun _ hK9 => ?_
  refine Zm ?_
  refine Yr fa41_3 ?_
  refine Yp ts39 ta39 ?_
  refine AL_lim (x := (Operand.tmp 15)) rfl fun hl1 => ?_
  try simp only [injs_length, ints_length, strs_length, injCs_length, u8s_length, List.length_map] at hl1
  refine Ze (Ev_len_injs te39 rfl) ?_
  refine Ze (Ev_lss rfl rfl) ?_
  refine Zn hK9 ?_
  refine Zc (fun hc3 => ?_) fun hc3 => ?_
  ·have hlt : j < ks.length := by simpa using hc3
   obtain ⟨u, hu⟩ : ∃ x, ks[j]? = some x := ⟨_, List.getElem?_eq_getElem hlt⟩
   have hu2 := injs_get hu
   have hdr := drop_get hu
   refine Zk hK8 ?_
   refine AC_seq fun _ hK10 => ?_
   refine AC_block ?_
   refine Zs fun _ hK11 => ?_
   refine Yr fa41_3 ?_
   refine Yp ts39 ta39 ?_
   refine Zm ?_
   refine Yi te39 ts41 ?_
   refine YP ts41 ta41 ?_
   refine Zm ?_
   refine Ze (Ev_add rfl rfl _ (wrap_id (by omega) (by omega))) ?_
   refine AL_fcall0 hT rfl cl97 (ih u (List.mem_of_getElem? hu) (hku u (List.mem_of_getElem? hu)) (d + 1) (by omega) (by omega)) rfl rfl ?_
   refine Ze (Ev_not rfl) ?_
   refine Zn hK11 ?_
   refine Zc (fun hc4 => ?_) fun hc4 => ?_
   ·refine Zs fun _ hK12 => ?_
    refine Za ?_
    refine Zn hK12 ?_
    refine AC_ret ?_
    refine Zr hdm ?_
    try rw [lright]
    try rw [hI]
    try rw [hdr]
    try simp_all [List.length_pos_iff, lrightL]
   ·refine Zk hK10 ?_
    refine AC_region ?_
    refine Zm ?_
    refine Ze (Ev_add rfl rfl _ (wrap_id (by omega) (by omega))) ?_
    refine Za ?_
    refine AL_nil ?_
    refine closeS (j + 1) [] rfl rfl (by show ks.length - (j + 1) < ks.length - j; omega) ⟨hlt, ?_⟩ BxTo_nil Sl_
    rw [hI]
    try rw [hdr]
    try simp_all [lrightL]
  ·have hj2 : j = ks.length := by
    have : ¬ j < ks.length := by simpa using hc3
    omega
   subst hj2
   rw [List.drop_length] at hI
   refine Zx hK6 ?_
   refine Zs fun _ hK13 => ?_
   refine Za ?_
   refine Zn hK13 ?_
   refine AC_ret ?_
   refine Zr hdm ?_
   try rw [lright]
   try rw [hI]
   try simp_all [List.length_pos_iff, lrightL]
set_option maxHeartbeats 1000000 in
set_option maxRecDepth 4000 in
theorem c_specTermOk (t : T) (hb : bulk t ≤ 1099511627776) : PCall Tryz.prog 64 [inj t] (· = [.c (.bool (okT t))]) := by
 refine PCall_of (n := 10) Tryz.func64 rfl rfl (Nat.le_of_ble_eq_true rfl) fun C hdm hT0 => ?_
 have hT := hT0
 refine Zs fun _ hK1 => ?_
 refine AL_box (Lay.st [.one, .one, .one, .one]) (nf rfl) rfl (by simp [Lay.len, Lay.lens]) _ rfl rfl ?_
 refine Za ?_
 refine Zn hK1 ?_
 refine Zs fun _ hK2 => ?_
 refine YL ts41 ta41 ?_
 refine AL_fcall0 hT rfl cl96 (c_l03Count t hb 400 (by omega) (by omega)) rfl rfl ?_
 refine Ze (Ev_geq rfl rfl) ?_
 refine Zm ?_
 refine Zb 6 (fun hg1 => ?_) fun hg1 => ?_
 ·refine Zt ?_
  refine YL ts41 ta41 ?_
  refine Zt ?_
  refine AL_fcall0 hT rfl cl97 (c_l03Right t hb 1 (by omega) (by omega)) rfl rfl ?_
  refine Zp ?_
  refine Za ?_
  refine Zn hK2 ?_
  refine AC_ret ?_
  refine Zr hdm ?_
  rw [← okS_eq, okS]
  simp_all
 ·iterate 2 refine Zg ?_
  refine Zp ?_
  refine Za ?_
  refine Zn hK2 ?_
  refine AC_ret ?_
  refine Zr hdm ?_
  rw [← okS_eq, okS]
  simp_all
  try omega
end Go.Proofs.YtjgliechbnommaaGreatDoor
set_option linter.unusedVariables false
set_option linter.unusedSimpArgs false
namespace Go.Proofs.YtjgliechbnommaaGreatDoor
open Go.Eng
theorem cl105 : Callable Tryz.prog 105 := Zq Tryz.func105
theorem cl73 : Callable Tryz.prog 73 := Zq Tryz.func73
set_option maxHeartbeats 1000000 in
set_option maxRecDepth 4000 in
theorem c_decimal (n : Int) (h0 : 0 ≤ n) (h1 : n ≤ 9223372036854775807) : PCall Tryz.prog 73 [.c (.int .i64 n)] (· = [.c (.string (dec n))]) := by
 refine PCall_of (n := 5) Tryz.func73 rfl rfl (Nat.le_of_ble_eq_true rfl) fun C hdm hT0 => ?_
 have hT := hT0
 refine Zs fun _ hK1 => ?_
 refine Za ?_
 refine Zn hK1 ?_
 refine Zs fun _ hK2 => ?_
 refine Zm ?_
 refine AL_fcall0 hT rfl cl105 (c_itoa n (by omega) (by omega)) rfl rfl ?_
 refine Za ?_
 refine Zn hK2 ?_
 refine AC_ret ?_
 exact Zr hdm rfl
set_option maxHeartbeats 1000000 in
set_option maxRecDepth 4000 in
theorem c_predOf (t : T) (hb : bulk t ≤ 1099511627776) : PCall Tryz.prog 44 [inj t] (· = [.c (.string (predS t))]) := by
 obtain ⟨k, s, m, ks⟩ := t
 obtain ⟨hs, hkl, hku⟩ := bulk_mk hb
 have hsz : s.size + (⟨#[47]⟩ : ByteArray).size ≤ 4611686018427387904 := by
  have : (⟨#[47]⟩ : ByteArray).size = 1 := rfl
  omega
 have hdz := dec_size (ks.length : Int) (by omega) (by omega)
 have hsz2 : (s ++ (⟨#[47]⟩ : ByteArray)).size + (dec ks.length).size ≤ 4611686018427387904 := by
  have : (⟨#[47]⟩ : ByteArray).size = 1 := rfl
  rw [ByteArray.size_append]
  omega
 refine PCall_of (n := 19) Tryz.func44 rfl rfl (Nat.le_of_ble_eq_true rfl) fun C hdm hT0 => ?_
 have hT := hT0
 refine Zs fun _ hK1 => ?_
 refine AL_box (Lay.st [.one, .one, .one, .one]) (nf rfl) rfl (by rfl) _ rfl rfl ?_
 refine Za ?_
 refine Zn hK1 ?_
 refine AC_seq fun _ hK2 => ?_
 refine Zs fun _ hK3 => ?_
 refine Ya fa41_0 ?_
 refine Yl ts3 ta3 ?_
 refine Ze (Ev_neq rfl rfl) ?_
 refine Zm ?_
 refine Zb 6 (fun hg1 => ?_) fun hg1 => ?_
 ·refine Zt ?_
  refine Ya fa41_0 ?_
  refine Zt ?_
  refine Yl ts3 ta3 ?_
  refine Zt ?_
  refine Ze (Ev_neq rfl rfl) ?_
  refine Zp ?_
  refine Zn hK3 ?_
  refine Zc (fun hc2 => ?_) fun hc2 => ?_
  ·refine Zs fun _ hK4 => ?_
   refine Za ?_
   refine Zn hK4 ?_
   refine AC_ret ?_
   refine Zr hdm ?_
   try rw [predS]
   try simp_all [List.length_pos_iff, T.kind, T.name, T.kids, slash]
  ·refine Zk hK2 ?_
   refine AC_seq fun _ hK5 => ?_
   refine AC_draw hT follows [0, 1, 2, 3, 4, 5, 6, 7, 8] (by kernel_rfl) ?_
   refine DT_ev rfl (EA_fa_ptr rfl fa41_1 rfl rfl) rfl ?_
   refine DT_ev rfl (EA_load_ptr rfl rfl rfl rfl rfl rfl ts9 ta9 rfl (fun _ => rfl)) rfl ?_
   refine DT_ev rfl (EA_sadd rfl rfl (by assumption)) rfl ?_
   refine DT_ev rfl (EA_fa_ptr rfl fa41_3 rfl rfl) rfl ?_
   refine DT_ev rfl (EA_load_ptr rfl rfl rfl rfl rfl rfl ts39 ta39 rfl (fun _ => rfl)) rfl ?_
   refine DT_ev rfl (EA_len_injs te39 rfl) rfl ?_
   refine DT_fcall0 rfl rfl cl73 (c_decimal ks.length (by omega) (by omega)) rfl rfl ?_
   refine DT_ev rfl (EA_sadd rfl rfl (by assumption)) rfl ?_
   refine DT_ev rfl (EA_assign) rfl ?_
   refine Zd hK5 ?_
   refine AC_ret ?_
   refine Zr hdm ?_
   try rw [predS]
   try simp_all [List.length_pos_iff, T.kind, T.name, T.kids, slash]
 ·iterate 3 refine Zg ?_
  refine Zp ?_
  refine Zn hK3 ?_
  refine AC_cond_f rfl ?_
  refine Zk hK2 ?_
  refine AC_seq fun _ hK6 => ?_
  refine AC_draw hT follows [0, 1, 2, 3, 4, 5, 6, 7, 8] (by kernel_rfl) ?_
  refine DT_ev rfl (EA_fa_ptr rfl fa41_1 rfl rfl) rfl ?_
  refine DT_ev rfl (EA_load_ptr rfl rfl rfl rfl rfl rfl ts9 ta9 rfl (fun _ => rfl)) rfl ?_
  refine DT_ev rfl (EA_sadd rfl rfl (by assumption)) rfl ?_
  refine DT_ev rfl (EA_fa_ptr rfl fa41_3 rfl rfl) rfl ?_
  refine DT_ev rfl (EA_load_ptr rfl rfl rfl rfl rfl rfl ts39 ta39 rfl (fun _ => rfl)) rfl ?_
  refine DT_ev rfl (EA_len_injs te39 rfl) rfl ?_
  refine DT_fcall0 rfl rfl cl73 (c_decimal ks.length (by omega) (by omega)) rfl rfl ?_
  refine DT_ev rfl (EA_sadd rfl rfl (by assumption)) rfl ?_
  refine DT_ev rfl (EA_assign) rfl ?_
  refine Zd hK6 ?_
  refine AC_ret ?_
  refine Zr hdm ?_
  try rw [predS]
  try simp_all [List.length_pos_iff, T.kind, T.name, T.kids, slash]
end Go.Proofs.YtjgliechbnommaaGreatDoor
set_option linter.unusedVariables false
set_option linter.unusedSimpArgs false
namespace Go.Proofs.YtjgliechbnommaaGreatDoor
open Go.Eng
theorem tz5 : tyZero Tryz.prog 5 = some (some (.int .u8 0)) := by kernel_rfl
theorem cl104 : Callable Tryz.prog 104 := Zq Tryz.func104
theorem te22 : tyElem Tryz.prog 22 = some 5 := by kernel_rfl
theorem tint5 : tyInt Tryz.prog 5 = some .u8 := by kernel_rfl
theorem ts5 : tySize Tryz.prog 5 = some 1 := by kernel_rfl
theorem tund3 : (Tryz.prog.underlying 3).isSome = true := by kernel_rfl
set_option maxHeartbeats 1000000 in
set_option maxRecDepth 4000 in
theorem c_figure (x : Int) (h0 : 0 ≤ x) (h1 : x ≤ 9) : PCall Tryz.prog 104 [.c (.int .i64 x)] (· = [.c (.int .u8 (48 + x))]) := by
 refine PCall_of (n := 12) Tryz.func104 rfl rfl (Nat.le_of_ble_eq_true rfl) fun C hdm hT0 => ?_
 have hT := hT0
 refine Zs fun _ hK1 => ?_
 refine Za ?_
 refine Zn hK1 ?_
 refine AC_seq fun _ hK2 => ?_
 refine Zs fun _ hK3 => ?_
 refine Zm ?_
 refine Ze (Ev_lss rfl rfl) ?_
 refine Zn hK3 ?_
 refine Zc (fun hc1 => ?_) fun hc1 => ?_
 ·refine Zs fun _ hK4 => ?_
  refine Zm ?_
  refine Ze (Ev_add rfl rfl _ (wrap_id (by omega) (by omega))) ?_
  refine Ze (Ev_conv_int tund3 tint5 rfl _ rfl) ?_
  refine Za ?_
  refine Zn hK4 ?_
  refine AC_ret ?_
  refine Zr hdm ?_
  rw [wrap8 _ (by omega) (by omega)]
 ·have : ¬ x < 10 := by simpa using hc1
  omega
set_option maxHeartbeats 1000000 in
set_option maxRecDepth 4000 in
theorem c_specDecimal (n : Int) (h0 : 0 ≤ n) (h1 : n ≤ 9223372036854775807) : PCall Tryz.prog 72 [.c (.int .i64 n)] (· = [.c (.string (dec n))]) := by
 refine PCall_of (n := 30) Tryz.func72 rfl rfl (Nat.le_of_ble_eq_true rfl) fun C hdm hT0 => ?_
 have hT := hT0
 refine Zs fun _ hK1 => ?_
 refine Za ?_
 refine Zn hK1 ?_
 refine AC_seq fun _ hK2 => ?_
 refine Zs fun _ hK3 => ?_
 refine Zm ?_
 refine Ze (Ev_eql rfl rfl) ?_
 refine Zn hK3 ?_
 refine Zc (fun hc1 => ?_) fun hc1 => ?_
 ·refine Zs fun _ hK4 => ?_
  refine Za ?_
  refine Zn hK4 ?_
  refine AC_ret ?_
  refine Zr hdm ?_
  have : n = 0 := by simpa using hc1
  subst this
  rw [dec_zero]
 ·refine Zk hK2 ?_
  refine Zs fun _ hK5 => ?_
  refine Zm ?_
  refine Ze (Ev_lss rfl rfl) ?_
  refine Za ?_
  refine Zn hK5 ?_
  refine Zs fun _ hK6 => ?_
  refine Za ?_
  refine Zn hK6 ?_
  refine AC_seq fun _ hK7 => ?_
  refine AC_block ?_
  refine AC_loopS [3] (Int × ByteArray) (fun ⟨q, s⟩ => [(0, i64 q), (4, st s)]) (fun ⟨q, s⟩ => []) (fun st => st.1.toNat) (fun ⟨q, s⟩ => (Lib.decDigits n.toNat = toCome q ++ s.data.toList ∧ 0 ≤ q ∧ q ≤ n)) ((n, ⟨#[]⟩)) ?_ ?_ ?_
  ·exact enterS [] rfl rfl BxTo_nil Sl_
  ·have : ¬ n = 0 := by simpa using hc1
   exact ⟨by simp [toCome, this], h0, Int.le_refl _⟩
  rintro ⟨q, s⟩ ⟨hI, hq0, hq1⟩
  show AC _ _ _ _ _ (FS [3] _ [(0, i64 q), (4, st s)]) []
  refine AC_seq fun _ hK8 => ?_
  refine Zs fun _ hK9 => ?_
  refine Zm ?_
  refine Ze (Ev_neq rfl rfl) ?_
  refine Zn hK9 ?_
  refine Zc (fun hc2 => ?_) fun hc2 => ?_
  ·have hqp : 0 < q := by
    have : ¬ q = 0 := by simpa using hc2
    omega
   have ht := tdm10 hqp
   have hwq : IntKind.i64.wrap (q.tdiv 10) = q.tdiv 10 := wrap_id (by omega) (by omega)
   have hfi : (48 + q.tmod 10).toNat = 48 + (q.tmod 10).toNat := by omega
   have hsz := congrArg List.length hI
   have hdl := Lib.itoa_length_le n (by omega) (by omega)
   have hit : Lib.itoa n = Lib.decDigits n.toNat := by unfold Lib.itoa; rw [if_neg (by omega)]
   have hb8 : (strOfNums [48 + q.tmod 10]).size + s.size ≤ 4611686018427387904 := by
    rw [strOfNums_size]
    rw [hit] at hdl
    have : s.data.toList.length = s.size := by simp
    rw [List.length_append] at hsz
    simp only [List.length_singleton]
    omega
   refine Zk hK8 ?_
   refine AC_block ?_
   refine Zs fun _ hK10 => ?_
   refine Zm ?_
   refine Ze (Ev_rem rfl rfl (by decide)) ?_
   refine Za ?_
   refine Zn hK10 ?_
   refine AC_seq fun _ hK11 => ?_
   refine Zs fun _ hK12 => ?_
   refine Zm ?_
   refine Ze (Ev_lss rfl rfl) ?_
   refine Zn hK12 ?_
   refine Zc (fun hc3 => ?_) fun hc3 => ?_
   ·have : q.tmod 10 < 0 := by simpa using hc3
    omega
   ·refine Zk hK11 ?_
    refine Zs fun _ hK13 => ?_
    refine Zm ?_
    refine AL_fcall0 hT rfl cl104 (c_figure (q.tmod 10) (by omega) (by omega)) rfl rfl ?_
    refine AL_bD .one rfl te22 ts5 tz5 rfl rfl (by decide) (by decide) (by rfl) rfl ?_
    refine Ze (Ev_conv_bytes [_] te22 tint5 tstr9 rfl Nat.one_pos) ?_
    refine Zm ?_
    refine Ze (Ev_sadd rfl rfl (by assumption)) ?_
    refine Za ?_
    refine Zn hK13 ?_
    refine AC_region ?_
    refine Zm ?_
    refine Ze (Ev_quo rfl rfl (by decide) _ rfl) ?_
    refine Za ?_
    refine AL_nil ?_
    refine closeS (q.tdiv 10, strOfNums [48 + q.tmod 10] ++ s) [] rfl rfl (by show (q.tdiv 10).toNat < q.toNat; omega) ?_ BxTo_nil (SlTo_cons (by exact Vw_int (by assumption)) Sl_)
    exact ⟨by rw [hI, toCome_step hqp, ba_app, strOfNums_data]; simp [hfi], by omega, by omega⟩
  ·refine Zx hK7 ?_
   refine AC_seq fun _ hK14 => ?_
   refine Zs fun _ hK15 => ?_
   refine Zm ?_
   refine Zn hK15 ?_
   refine Zc (fun hc4 => ?_) fun hc4 => ?_
   ·have : n < 0 := by simpa using hc4
    omega
   ·refine Zk hK14 ?_
    refine Zs fun _ hK16 => ?_
    refine Zm ?_
    refine Za ?_
    refine Zn hK16 ?_
    refine AC_ret ?_
    refine Zr hdm ?_
    have hqz : q = 0 := by simpa using hc2
    subst hqz
    congr 3
    refine ba_ext ?_
    rw [dec_pos h0, hI]
    simp [toCome]
end Go.Proofs.YtjgliechbnommaaGreatDoor

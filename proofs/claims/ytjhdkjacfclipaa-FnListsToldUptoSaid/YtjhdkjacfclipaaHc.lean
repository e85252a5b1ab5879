/- Calls over boxes: a function is handed boxes, changes them, hands out values over them. -/
import Derived.Test.YtjhdkjacfclipaaOw
set_option linter.unusedVariables false
set_option linter.unusedSimpArgs false
namespace Go.Eng

mutual
/-- A value seen with its boxes renamed: r tells where a new name's box stood. -/
inductive Vx (r : Nat → Option Nat) : V → V → Prop
  | any {v : V} : Vx r v .any
  | d {x : D} : Vx r (.d x) (.d x)
  | agg {fs : List Lay} {vs vs' : List V} : VxL r vs vs' → Vx r (.agg fs vs) (.agg fs vs')
  | ref {l : Lay} {i j off m : Nat} : r j = some i → Vx r (.ref l i off m) (.ref l j off m)
  | ptr {l : Lay} {i j k : Nat} {p : List Nat} : r j = some i → Vx r (.ptr l i k p) (.ptr l j k p)
  | fn {k : FuncId} {vs vs' : List V} : VxL r vs vs' → Vx r (.fn k vs) (.fn k vs')
inductive VxL (r : Nat → Option Nat) : List V → List V → Prop
  | nil : VxL r [] []
  | cons {v v' : V} {vs vs' : List V} : Vx r v v' → VxL r vs vs' → VxL r (v :: vs) (v' :: vs')
end
theorem VxL_length {r : Nat → Option Nat} : ∀ {vs vs' : List V}, VxL r vs vs' → vs.length = vs'.length
  | _, _, .nil => rfl
  | _, _, .cons _ h => by simp [VxL_length h]
theorem VxL_d {r : Nat → Option Nat} : ∀ xs : List D, VxL r (xs.map V.d) (xs.map V.d)
  | [] => .nil
  | _ :: xs => .cons .d (VxL_d xs)
mutual
theorem Vx_sound {r : Nat → Option Nat} {β β2 : Beta} {S : Nat → Prop} {w : World} (h2 : ∀ j i, r j = some i → β2 j = β i) : ∀ {v v' : V}, Vx r v v' → ∀ cs, VC β S w v cs → VC β2 S w v' cs
  | v, _, .any, cs, h => by
    simp only [VC]
    exact VC_scalar v cs h
  | _, _, .d, cs, h => by simpa only [VC] using h
  | _, _, .agg k, cs, h => by
    simp only [VC] at h ⊢
    exact VxL_sound h2 k _ cs h
  | _, _, .ref (j := j) k, cs, h => by
    simp only [VC] at h ⊢
    rw [h2 j _ k]; exact h
  | _, _, .ptr (j := j) k, cs, h => by
    simp only [VC] at h ⊢
    rw [h2 j _ k]; exact h
  | _, _, .fn k, cs, h => by
    simp only [VC] at h ⊢
    obtain ⟨xs, e1, e2⟩ := h
    exact ⟨xs, e1, VxL_length k ▸ VxL_sound h2 k _ xs e2⟩
theorem VxL_sound {r : Nat → Option Nat} {β β2 : Beta} {S : Nat → Prop} {w : World} (h2 : ∀ j i, r j = some i → β2 j = β i) : ∀ {vs vs' : List V}, VxL r vs vs' → ∀ fs cs, VCs β S w fs vs cs → VCs β2 S w fs vs' cs
  | _, _, .nil, fs, cs, h => by simpa only [VCs] using h
  | _, _, .cons k1 k2, fs, cs, h => by
    simp only [VCs] at h ⊢
    obtain ⟨f, fr, c1, c2, e1, e2, e3, e4, e5⟩ := h
    exact ⟨f, fr, c1, c2, e1, e2, e3, Vx_sound h2 k1 c1 e4, VxL_sound h2 k2 fr c2 e5⟩
end
theorem Vx_isAgg {r : Nat → Option Nat} {v v' : V} (h : Vx r v v') (hn : v' ≠ .any) : v.isAgg = v'.isAgg := by
  cases h <;> first | rfl | exact absurd rfl hn
theorem Vx_VR0 {r : Nat → Option Nat} {β β2 : Beta} {S : Nat → Prop} {w : World} (h2 : ∀ j i, r j = some i → β2 j = β i) {v v' : V} (h : Vx r v v') {x : Value} (hv : VR0 β S w v x) : VR0 β2 S w v' x := by
  by_cases hn : v' = .any
  · exact .inl hn
  · have hva : v ≠ .any := by
      rintro rfl
      cases h
      exact hn rfl
    rcases hv with hv | ⟨h3, h4⟩
    · exact absurd hv hva
    · exact .inr ⟨Vx_sound h2 h _ h3, by rw [← Vx_isAgg h hn, h4]⟩
theorem VxL_VR0 {r : Nat → Option Nat} {β β2 : Beta} {S : Nat → Prop} {w : World} (h2 : ∀ j i, r j = some i → β2 j = β i) : ∀ {vs vs' : List V} {xs : List Value}, VxL r vs vs' → All2 (VR0 β S w) vs xs → All2 (VR0 β2 S w) vs' xs
  | _, _, _, .nil, .nil => .nil
  | _, _, _, .cons k1 k2, .cons h1 h3 => .cons (Vx_VR0 h2 k1 h1) (VxL_VR0 h2 k2 h3)

abbrev someL (Ls : List Box) : Hp := Ls.map some
theorem someL_get {Ls : List Box} {i : Nat} {b : Box} (h : (someL Ls)[i]? = some (some b)) : Ls[i]? = some b := by
  simp only [someL, List.getElem?_map, Option.map_eq_some_iff] at h
  obtain ⟨y, h1, h2⟩ := h
  injection h2 with h2
  rw [← h2]; exact h1
theorem someL_mk {Ls : List Box} {i : Nat} {b : Box} (h : Ls[i]? = some b) : (someL Ls)[i]? = some (some b) := by
  simp only [someL, List.getElem?_map, h, Option.map_some]
/-- Boxes of a state, seen as others. -/
def BxI (L : Hp) (r : Nat → Option Nat) : Nat → List Box → Prop
  | _, [] => True
  | j, b2 :: rest => (∃ i b1, r j = some i ∧ L[i]? = some (some b1) ∧ b1.ty.t = b2.ty.t ∧ b2.ty.ad = none ∧ b1.l = b2.l ∧ VxL r b1.es b2.es) ∧ BxI L r (j + 1) rest
theorem BxI_nil {L : Hp} {r : Nat → Option Nat} {j : Nat} : BxI L r j [] := trivial
theorem BxI_cons {L : Hp} {r : Nat → Option Nat} {j i : Nat} {b1 b2 : Box} {rest : List Box} (h1 : r j = some i) (h2 : L[i]? = some (some b1)) (h3 : b1.ty.t = b2.ty.t) (h4 : b2.ty.ad = none) (h5 : b1.l = b2.l) (h6 : VxL r b1.es b2.es) (h : BxI L r (j + 1) rest) : BxI L r j (b2 :: rest) :=
  ⟨⟨i, b1, h1, h2, h3, h4, h5, h6⟩, h⟩
theorem BxI_get {L : Hp} {r : Nat → Option Nat} : ∀ (L2 : List Box) (j0 : Nat), BxI L r j0 L2 → ∀ j b2, L2[j]? = some b2 → ∃ i b1, r (j0 + j) = some i ∧ L[i]? = some (some b1) ∧ b1.ty.t = b2.ty.t ∧ b2.ty.ad = none ∧ b1.l = b2.l ∧ VxL r b1.es b2.es
  | [], j0, _, j, b2, h => by simp at h
  | b :: rest, j0, k, j, b2, h => by
    cases j with
    | zero => simp at h; subst h; exact k.1
    | succ j =>
      simp at h
      have := BxI_get rest (j0 + 1) k.2 j b2 h
      rw [show j0 + (j + 1) = j0 + 1 + j by omega]; exact this
def viewB (r : Nat → Option Nat) (β : Beta) : Beta := fun j => match r j with | some i => β i | none => none
theorem viewB_some {r : Nat → Option Nat} {β : Beta} {j i : Nat} (h : r j = some i) : viewB r β j = β i := by simp only [viewB, h]
theorem HeapR.view {β : Beta} {S : Nat → Prop} {w : World} {L : Hp} (h : HeapR β S w L) {r : Nat → Option Nat} {Ls : List Box} (hB : BxI L r 0 Ls) (hnd : ∀ j j' i, r j = some i → r j' = some i → j = j') (hun : ∀ j, Ls.length ≤ j → r j = none) : HeapR (viewB r β) S w (someL Ls) := by
  have h2 : ∀ j i, r j = some i → viewB r β j = β i := fun j i e => viewB_some e
  have old : ∀ j b2, (someL Ls)[j]? = some (some b2) → ∃ i b1, r j = some i ∧ L[i]? = some (some b1) ∧ b1.ty.t = b2.ty.t ∧ b2.ty.ad = none ∧ b1.l = b2.l ∧ VxL r b1.es b2.es := fun j b2 hj => by
    have := BxI_get Ls 0 hB j b2 (someL_get hj)
    simpa using this
  refine ⟨?_, ?_, ?_, h.fz, ?_, ?_⟩
  · intro j b2 hj
    obtain ⟨i, b1, k1, k2, k3, _, k4, k5⟩ := old j b2 hj
    have hl := VxL_length k5
    obtain ⟨q0, q⟩ := h.bx i b1 k2
    refine ⟨by omega, ?_⟩
    rcases q with ⟨q1, q2⟩ | ⟨b, Cp, cur, ds, q1, q2, q3, q4, q5, q6⟩
    · refine .inl ⟨by rw [h2 j i k1]; exact q1, ?_⟩
      rw [q2] at hl
      exact List.eq_nil_of_length_eq_zero hl.symm
    · refine .inr ⟨b, Cp, cur, ds, by rw [h2 j i k1]; exact q1, by rw [← k3]; exact q2, by rw [← k4]; exact q3, by rw [← hl]; exact q4, ?_, q6⟩
      rw [← hl, ← k4]
      exact VxL_sound h2 k5 _ ds q5
  · intro j j' b bx bx' c c' hj hj' hbj hbj'
    obtain ⟨i, b1, k1, k2, _⟩ := old j bx hj
    obtain ⟨i', b1', k1', k2', _⟩ := old j' bx' hj'
    rw [h2 j i k1] at hbj
    rw [h2 j' i' k1'] at hbj'
    have := h.inj i i' b b1 b1' c c' k2 k2' hbj hbj'
    subst this
    exact hnd j j' i k1 k1'
  · intro j bx b c hj hbj
    obtain ⟨i, b1, k1, k2, _⟩ := old j bx hj
    rw [h2 j i k1] at hbj
    exact h.own i b1 b c k2 hbj
  · intro j hj
    simp only [viewB, hun j (by simpa using hj)]
  · intro j bx q hj hq
    obtain ⟨i, b1, k1, k2, _, k3, _⟩ := old j bx hj
    rw [k3] at hq; cases hq

/-- The blocks that a call was handed. -/
def inBk (Lin : List Box) (β : Beta) (b : Nat) : Prop := ∃ j bx c, Lin[j]? = some bx ∧ β j = some (some (b, c))
/-- What is handed out: a tree of its own ahead, where there is one; then values. -/
def ResH (ow : Option (Lay × D)) (res : List V) (β : Beta) (S : Nat → Prop) (w : World) (ys : List Value) (M : List Nat) : Prop :=
  match ow with
  | none => All2 (VR0 β S w) res ys ∧ M = []
  | some (l, r) => ∃ y yr, ys = y :: yr ∧ Tr w r y.cells.toList M ∧ r.isAgg = isAggV y ∧ All2 (VR0 β S w) res yr
def HCall (P : Program) (k : FuncId) (args : List V) (Lin : List Box) (stay : Nat) (ow : Option (Lay × D)) (res : List V) (Lout : List Box) : Prop :=
  ∀ (w : World) (S : Nat → Prop) (β : Beta) (xs : List Value), Tab P S w → HeapR β S w (someL Lin) → All2 (VR0 β S w) args xs →
    Calls P k xs.toArray w fun en w' => ∃ ys β' S' M, en = .returned (tupV ys) ∧ ResH ow res β' S' w' ys M ∧ HeapR β' S' w' (someL Lout) ∧ (∀ j, j < stay → β' j = β j) ∧
      (∀ i bx b c, Lout[i]? = some bx → β' i = some (some (b, c)) → inBk Lin β b ∨ w.heap.size ≤ b) ∧ (∀ b ∈ M, w.heap.size ≤ b ∧ ¬ S' b ∧ ∀ i bx c, Lout[i]? = some bx → β' i ≠ some (some (b, c))) ∧
      (∀ b, S b → S' b) ∧ (∀ b, S' b → S b ∨ w.heap.size ≤ b ∨ inBk Lin β b) ∧ Pres (inBk Lin β) w w'

section
variable {P : Program} {C : Cx} {n : Nat} {f : Fr} {L : Hp} {Q : AQ} {ops : Array Oper} {rest : List Oper} {dst : Option Tmp} {ty : TypeId} {pos : String} {after : Array Edge} {a : Act} {w w' : World} {β : Beta} {S S' : Nat → Prop}

def outR (q : Nat) : Nat → Option Nat := fun J => bif Nat.ble q J then some (J - q) else none
/-- Boxes that come out, seen behind those of the caller. -/
def BxO (q : Nat) (L : Hp) (r : Nat → Option Nat) (stay : Nat) : Nat → List Box → List Box → Prop
  | _, [], [] => True
  | j, b1 :: r1, b2 :: r2 => (b1.ty.t = b2.ty.t ∧ b1.l = b2.l ∧ VxL (outR q) b1.es b2.es ∧ (b2.ty.ad = none ∨ (j < stay ∧ ∃ i bx, r j = some i ∧ L[i]? = some (some bx) ∧ b2.ty.ad = bx.ty.ad))) ∧ BxO q L r stay (j + 1) r1 r2
  | _, _, _ => False
def afterB (q : Nat) (β β' : Beta) : Beta := fun J => if J < q then β J else β' (J - q)
def retH : List V → V
  | [v] => v
  | vs => .tup vs
theorem retH_VR {vs : List V} {ys : List Value} (h : All2 (VR0 β S w) vs ys) : VR β S w (retH vs) (tupV ys) := by
  match vs, ys, h with
  | [], _, .nil => exact ⟨[], rfl, .nil⟩
  | [v], _, .cons h1 .nil => exact VR_of_VR0 h1
  | v :: v' :: r, _, .cons h1 (.cons h2 h3) => exact ⟨_, rfl, .cons h1 (.cons h2 h3)⟩

theorem srcOf_nodup {src : List Nat} (hnd : nodupS (src.map some) = true) : ∀ j j' i, srcOf (src.map some) j = some i → srcOf (src.map some) j' = some i → j = j' := nodupS_inj _ hnd
theorem srcOf_un {src : List Nat} {m : Nat} (h : src.length = m) : ∀ j, m ≤ j → srcOf (src.map some) j = none := fun j hj => by
  unfold srcOf
  rw [List.getElem?_eq_none (by simp; omega)]
theorem args_VR0 (hr : Rel C n f L a w β S) : ∀ (xs : List Operand) (vs : List V) {r : Nat → Option Nat}, VxL r (xs.map (ev f)) vs → ∀ {β2 : Beta}, (∀ j i, r j = some i → β2 j = β i) → All2 (VR0 β2 S w) vs (xs.map a.eval)
  | [], _, r, .nil, _, _ => .nil
  | x :: xs, _, r, .cons (v' := v') h1 h2, β2, hb => by
    refine .cons ?_ (args_VR0 hr xs _ h2 hb)
    by_cases hn : v' = .any
    · exact .inl hn
    · have hk : (ev f x).known = true := by
        generalize ev f x = v at h1
        cases h1 <;> first | rfl | exact absurd rfl hn
      exact Vx_VR0 hb h1 (known_VR0 (rel_ev hr x) hk)

/-- The frame and the boxes at the start. -/
def frV (args : List V) : Fr := fun i => match args[i]? with | some v => v | none => .any
def inL (o : Nat → Option (Nat × Nat)) (stay : Nat) : Nat → List Box → Hp
  | _, [] => []
  | j, b :: r => some ⟨⟨b.ty.t, bif Nat.blt j stay then some (o j) else none⟩, b.l, b.es⟩ :: inL o stay (j + 1) r
theorem inL_get {o : Nat → Option (Nat × Nat)} {stay : Nat} : ∀ (Ls : List Box) (j0 j : Nat) (b : Box), (inL o stay j0 Ls)[j]? = some (some b) → ∃ b0, Ls[j]? = some b0 ∧ b = ⟨⟨b0.ty.t, bif Nat.blt (j0 + j) stay then some (o (j0 + j)) else none⟩, b0.l, b0.es⟩
  | [], j0, j, b, h => by simp [inL] at h
  | b0 :: r, j0, 0, b, h => by simp [inL] at h; exact ⟨b0, rfl, by rw [← h]; rfl⟩
  | b0 :: r, j0, j + 1, b, h => by
    simp only [inL, List.getElem?_cons_succ] at h
    obtain ⟨b1, h1, h2⟩ := inL_get r (j0 + 1) j b h
    rw [show j0 + 1 + j = j0 + (j + 1) by omega] at h2
    exact ⟨b1, by simpa using h1, h2⟩
theorem inL_length {o : Nat → Option (Nat × Nat)} {stay : Nat} : ∀ (Ls : List Box) (j0 : Nat), (inL o stay j0 Ls).length = Ls.length
  | [], _ => rfl
  | _ :: r, j0 => by simp [inL, inL_length r]
def retHP (fn : Func) (P : Program) (C0 : Cx) (o : Nat → Option (Nat × Nat)) (stay : Nat) (ow : Option (Lay × D)) (res : List V) (Lout : List Box) (a : Act) (w' : World) : Prop :=
  a.defers = [] ∧ ∃ x, (results fn a.tmps).run P w' = .ok x w' ∧ ∃ ys β' S' M, x = tupV ys ∧ ResH ow res β' S' w' ys M ∧ HeapR β' S' w' (someL Lout) ∧ (∀ j, j < stay → β' j = some (o j)) ∧
    (∀ i bx b c, Lout[i]? = some bx → β' i = some (some (b, c)) → C0.Dm b ∨ C0.w0.heap.size ≤ b) ∧ (∀ b ∈ M, C0.w0.heap.size ≤ b ∧ ¬ S' b ∧ ∀ i bx c, Lout[i]? = some bx → β' i ≠ some (some (b, c))) ∧
    (∀ b, C0.S0 b → S' b) ∧ (∀ b, S' b → C0.S0 b ∨ C0.w0.heap.size ≤ b ∨ C0.Dm b) ∧ Pres C0.Dm C0.w0 w'
def retHQ (fn : Func) (P : Program) (C0 : Cx) (o : Nat → Option (Nat × Nat)) (stay : Nat) (ow : Option (Lay × D)) (res : List V) (Lout : List Box) : AQ := fun en a w => ends en = true ∧ retHP fn P C0 o stay ow res Lout a w
theorem HCall_of {k : FuncId} {fn : Func} {c : Code} {args : List V} {Lin Lout : List Box} {stay : Nat} {ow : Option (Lay × D)} {res : List V} (hf : P.funcs[k]? = some fn) (hb : fn.body = some c) (hn : fn.ntmps = n) (hlen : args.length ≤ n) (hst : stay ≤ Lin.length)
    (h : ∀ C0 o, (∀ b, C0.Dm b ↔ ∃ j, j < Lin.length ∧ ∃ c, o j = some (b, c)) → CT P C0 → AC P C0 n c (retHQ fn P C0 o stay ow res Lout) (frV args) (inL o stay 0 Lin)) : HCall P k args Lin stay ow res Lout := by
  intro w S β xs hT hh ha
  refine calls_of_wp hf hb ?_
  subst hn
  have hsome : ∀ j, j < Lin.length → ∃ q, β j = some q := fun j hj => by
    have := hh.bx j Lin[j] (someL_mk (List.getElem?_eq_getElem hj))
    rcases this.2 with ⟨h1, _⟩ | ⟨b, Cp, _, _, h1, _⟩
    · exact ⟨_, h1⟩
    · exact ⟨_, h1⟩
  let o : Nat → Option (Nat × Nat) := fun j => match β j with | some q => q | none => none
  have ho : ∀ j, j < Lin.length → β j = some (o j) := fun j hj => by
    obtain ⟨q, hq⟩ := hsome j hj
    simp only [o, hq]
  have hdm : ∀ b, inBk Lin β b ↔ ∃ j, j < Lin.length ∧ ∃ c, o j = some (b, c) := fun b => by
    constructor
    · rintro ⟨j, bx, c, h1, h2⟩
      have hj := lt_of_get h1
      refine ⟨j, hj, c, ?_⟩
      rw [ho j hj] at h2
      injection h2
    · rintro ⟨j, hj, c, h1⟩
      exact ⟨j, Lin[j], c, List.getElem?_eq_getElem hj, by rw [ho j hj, h1]⟩
  have hln : ∀ {vs : List V} {zs : List Value}, All2 (VR0 β S w) vs zs → vs.length = zs.length := by
    intro vs zs h
    induction h with
    | nil => rfl
    | cons _ _ ih => simp [ih]
  have hsz := hln ha
  have hget : ∀ {vs : List V} {zs : List Value}, All2 (VR0 β S w) vs zs → ∀ (i : Nat) (v : V), vs[i]? = some v → ∃ z : Value, zs[i]? = some z ∧ VR0 β S w v z := by
    intro vs zs h
    induction h with
    | nil => intro i d h; simp at h
    | cons h1 _ ih =>
      intro i d hi
      cases i with
      | zero => simp at hi; subst hi; exact ⟨_, rfl, h1⟩
      | succ i => simp at hi; simpa using ih i d hi
  have getL : ∀ (j : Nat) (b0 : Box), Lin[j]? = some b0 → (someL Lin)[j]? = some (some b0) := fun j b0 h => someL_mk h
  have hrel : Rel ⟨w, inBk Lin β, S⟩ fn.ntmps (frV args) (inL o stay 0 Lin) { tmps := xs.toArray ++ Array.replicate (fn.ntmps - xs.toArray.size) undef, defers := [] } w β S := by
    refine ⟨rfl, ?_, fun i => ?_, ⟨?_, ?_, ?_, hh.fz, fun i hi => hh.un i (by simpa [inL_length] using hi), ?_⟩, ?_, fun b hb => .inl hb, fun b hb => hb, Pres.refl _ _⟩
    · simp at hsz ⊢; omega
    · show VR _ _ _ (match args[i]? with | some v => v | none => .any) _
      cases e' : args[i]? with
      | none => exact VR_any ..
      | some v =>
        obtain ⟨z, hz, hv⟩ := hget ha i v e'
        have : (xs.toArray ++ Array.replicate (fn.ntmps - xs.toArray.size) undef).getD i undef = z := by
          have hi := lt_of_get hz
          rw [Array.getD_eq_getD_getElem?, Array.getElem?_append_left (by simpa using hi), List.getElem?_toArray, hz]
          rfl
        simp only
        rw [this]
        exact VR_of_VR0 hv
    · intro i b hi
      obtain ⟨b0, h1, rfl⟩ := inL_get Lin 0 i b hi
      exact hh.bx i b0 (getL i b0 h1)
    · intro i j b bx bx' c c' hi hj hb hb'
      obtain ⟨b0, h1, rfl⟩ := inL_get Lin 0 i bx hi
      obtain ⟨b0', h1', rfl⟩ := inL_get Lin 0 j bx' hj
      exact hh.inj i j b b0 b0' c c' (getL i b0 h1) (getL j b0' h1') hb hb'
    · intro i bx b c hi hbi
      obtain ⟨b0, h1, rfl⟩ := inL_get Lin 0 i bx hi
      exact hh.own i b0 b c (getL i b0 h1) hbi
    · intro i bx q hi hq
      obtain ⟨b0, h1, rfl⟩ := inL_get Lin 0 i bx hi
      simp only [Nat.zero_add] at hq
      cases e : Nat.blt i stay with
      | false => rw [e] at hq; cases hq
      | true =>
        rw [e] at hq
        injection hq with hq
        rw [ho i (lt_of_get h1), hq]
    · intro i bx b c hi hbi
      obtain ⟨b0, h1, rfl⟩ := inL_get Lin 0 i bx hi
      exact .inl ⟨i, b0, c, h1, hbi⟩
  have hown : ∀ b, S b → ¬ inBk Lin β b := fun b hb ⟨j, bx, c, h1, h2⟩ => hh.own j bx b c (getL j bx h1) h2 hb
  refine wp_mono (h ⟨w, inBk Lin β, S⟩ o hdm (CT.start hT hown) _ w _ S hrel) ?_
  rintro en a w' ⟨hend, h1, x, h2, ys, β', S', M, h3, h4, h5, h6, h7, h8, h9, h10, h11⟩
  have fin : a.defers = [] ∧ ∃ v, (results fn a.tmps).run P w' = .ok v w' ∧ ∃ ys β' S' M, Ending.returned v = .returned (tupV ys) ∧ ResH ow res β' S' w' ys M ∧ HeapR β' S' w' (someL Lout) ∧ (∀ j, j < stay → β' j = β j) ∧
      (∀ i bx b c, Lout[i]? = some bx → β' i = some (some (b, c)) → inBk Lin β b ∨ w.heap.size ≤ b) ∧ (∀ b ∈ M, w.heap.size ≤ b ∧ ¬ S' b ∧ ∀ i bx c, Lout[i]? = some bx → β' i ≠ some (some (b, c))) ∧
      (∀ b, S b → S' b) ∧ (∀ b, S' b → S b ∨ w.heap.size ≤ b ∨ inBk Lin β b) ∧ Pres (inBk Lin β) w w' :=
    ⟨h1, x, h2, ys, β', S', M, by rw [h3], h4, h5, fun j hj => by rw [h6 j hj, ho j (by omega)], h7, h8, h9, h10, h11⟩
  cases en with
  | normal => exact fin
  | ret => exact fin
  | _ => cases hend
/-- Boxes at the end, seen as those that are handed out. -/
def BxF (L : Hp) (r : Nat → Option Nat) (o : Nat → Option (Nat × Nat)) (stay : Nat) : Nat → List Box → Prop
  | _, [] => True
  | j, b2 :: rest => (∃ i b1, r j = some i ∧ L[i]? = some (some b1) ∧ b1.ty.t = b2.ty.t ∧ b2.ty.ad = none ∧ b1.l = b2.l ∧ VxL r b1.es b2.es ∧ (b1.ty.ad = some (o j) ∨ stay ≤ j)) ∧ BxF L r o stay (j + 1) rest
theorem BxF_nil {L : Hp} {r : Nat → Option Nat} {o : Nat → Option (Nat × Nat)} {stay j : Nat} : BxF L r o stay j [] := trivial
theorem BxF_stay {L : Hp} {r : Nat → Option Nat} {o : Nat → Option (Nat × Nat)} {stay j i : Nat} {b1 b2 : Box} {rest : List Box} (h1 : r j = some i) (h2 : L[i]? = some (some b1)) (h3 : b1.ty.t = b2.ty.t) (h4 : b2.ty.ad = none) (h5 : b1.l = b2.l) (h6 : VxL r b1.es b2.es) (h7 : b1.ty.ad = some (o j)) (h : BxF L r o stay (j + 1) rest) : BxF L r o stay j (b2 :: rest) :=
  ⟨⟨i, b1, h1, h2, h3, h4, h5, h6, .inl h7⟩, h⟩
theorem BxF_I {L : Hp} {r : Nat → Option Nat} {o : Nat → Option (Nat × Nat)} {stay : Nat} : ∀ (Ls : List Box) (j : Nat), BxF L r o stay j Ls → BxI L r j Ls
  | [], _, _ => trivial
  | b :: rest, j, ⟨⟨i, b1, h1, h2, h3, h4, h5, h6, _⟩, h⟩ => ⟨⟨i, b1, h1, h2, h3, h4, h5, h6⟩, BxF_I rest (j + 1) h⟩
theorem BxF_ad {L : Hp} {r : Nat → Option Nat} {o : Nat → Option (Nat × Nat)} {stay : Nat} : ∀ (Ls : List Box) (j0 : Nat), BxF L r o stay j0 Ls → ∀ j, j < Ls.length → j0 + j < stay → ∃ i b1, r (j0 + j) = some i ∧ L[i]? = some (some b1) ∧ b1.ty.ad = some (o (j0 + j))
  | [], _, _, j, h, _ => by simp at h
  | b :: rest, j0, ⟨⟨i, b1, h1, h2, h3, h4, h5, h6, h7⟩, h⟩, j, hj, hs => by
    cases j with
    | zero => exact ⟨i, b1, h1, h2, h7.resolve_right (by omega)⟩
    | succ j =>
      have := BxF_ad rest (j0 + 1) h j (by simpa using hj) (by omega)
      rw [show j0 + 1 + j = j0 + (j + 1) by omega] at this
      exact this
theorem reth_core {C0 : Cx} {o : Nat → Option (Nat × Nat)} {stay : Nat} {Lout : List Box} (hx : CExt C0 C) (src : List Nat) (hln : src.length = Lout.length) (hnd : nodupS (src.map some) = true) (hB : BxF L (srcOf (src.map some)) o stay 0 Lout) (hst : stay ≤ Lout.length) (hr : Rel C n f L a w' β S) :
    HeapR (viewB (srcOf (src.map some)) β) S w' (someL Lout) ∧ (∀ j, j < stay → viewB (srcOf (src.map some)) β j = some (o j)) ∧ (∀ i bx b c, Lout[i]? = some bx → viewB (srcOf (src.map some)) β i = some (some (b, c)) → C0.Dm b ∨ C0.w0.heap.size ≤ b) ∧
    (∀ b, C0.S0 b → S b) ∧ (∀ b, S b → C0.S0 b ∨ C0.w0.heap.size ≤ b ∨ C0.Dm b) ∧ Pres C0.Dm C0.w0 w' := by
  have hr0 := hr.back hx
  refine ⟨hr.hp.view (BxF_I Lout 0 hB) (srcOf_nodup hnd) (srcOf_un hln), fun j hj => ?_, fun i bx b c h1 h2 => ?_, hr0.s0, hr0.fz, hr0.pres⟩
  · obtain ⟨i, b1, k1, k2, k3⟩ := BxF_ad Lout 0 hB j (by omega) (by omega)
    simp only [Nat.zero_add] at k1 k3
    rw [viewB_some k1]
    exact hr.hp.ad i b1 _ k2 k3
  · obtain ⟨m, b1, k1, k2, _⟩ := BxI_get Lout 0 (BxF_I Lout 0 hB) i bx h1
    simp only [Nat.zero_add] at k1
    rw [viewB_some k1] at h2
    exact hr0.own m b1 b c k2 h2
theorem reth_ok {C0 : Cx} {fn : Func} {o : Nat → Option (Nat × Nat)} {stay : Nat} {res vs : List V} {Lout : List Box} (src : List Nat) (hx : CExt C0 C) (hrv : RetV P f L fn.results.toList vs) (hln : src.length = Lout.length) (hnd : nodupS (src.map some) = true) (hB : BxF L (srcOf (src.map some)) o stay 0 Lout) (hst : stay ≤ Lout.length)
    (hv : VxL (srcOf (src.map some)) vs res) : Fin C n (retHQ fn P C0 o stay none res Lout .ret) f L := by
  intro a w' β S hr
  refine ⟨rfl, ?_⟩
  obtain ⟨ys, hy, hall⟩ := RetV_run hr hrv
  have hrun := results_run (fn := fn) hy
  rw [tupV_eq] at hrun
  obtain ⟨g1, g2, g3, g4, g5, g6⟩ := reth_core hx src hln hnd hB hst hr
  exact ⟨hr.df, _, hrun, ys, _, S, [], rfl, ⟨VxL_VR0 (fun j i e => viewB_some e) hv hall, rfl⟩, g1, g2, g3, by simp, g4, g5, g6⟩
end
/-- The tree ahead as data. -/
theorem HCall.data {P : Program} {k : FuncId} {args : List V} {Lin Lout : List Box} {stay : Nat} {l : Lay} {r : D} {res : List V} (h : HCall P k args Lin stay (some (l, r)) res Lout) : HCall P k args Lin stay none (.d r :: res) Lout := fun w S β xs hT hh ha =>
  (h w S β xs hT hh ha).mono fun en w' ⟨ys, β', S', M, h1, ⟨y, yr, h2, t1, t2, t3⟩, h4, h5, h6, h7, h8, h9, h10⟩ => by
    have hlt := Tr_lt _ _ _ t1
    have su : ∀ b, S' b → S' b ∨ b ∈ M := fun b hb => .inl hb
    have lat : Later β' S' w' β' (fun b => S' b ∨ b ∈ M) w' := ⟨fun _ _ h => h, su, fun _ _ => rfl⟩
    refine ⟨ys, β', fun b => S' b ∨ b ∈ M, [], h1, ⟨?_, rfl⟩, ⟨fun i b hb => BoxR_later lat (fun _ _ _ => rfl) (h4.bx i b hb), h4.inj, fun i bx b c hL hβ hs => ?_, fun b hb => ?_, h4.un, h4.ad⟩, h5, h6, by simp, fun b hb => .inl (h8 b hb), fun b hb => ?_, h10⟩
    · subst h2
      refine .cons (VR0_of_RD ⟨Tr_DC _ _ _ (fun b hb => .inr hb) t1, t2⟩) ?_
      have key : ∀ {vs : List V} {zs : List Value}, All2 (VR0 β' S' w') vs zs → All2 (VR0 β' (fun b => S' b ∨ b ∈ M) w') vs zs := fun h => h.mono fun _ _ h => VR0_later lat h
      exact key t3
    · rcases hs with hs | hs
      · exact h4.own i bx b c hL hβ hs
      · exact (h7 b hs).2.2 i bx c (someL_get hL) hβ
    · rcases hb with hb | hb
      · exact h4.fz b hb
      · exact hlt b hb
    · rcases hb with hb | hb
      · exact h9 b hb
      · exact .inr (.inl (h7 b hb).1)
end Go.Eng

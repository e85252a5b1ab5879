/- The engine's words: data without references (D), values of a frame (V), boxes, and how they stand to the machine's memory. -/
import Derived.WalkKit
import Derived.Orders
set_option linter.unusedVariables false
set_option linter.unusedSimpArgs false
namespace Go.Eng

/-- No slice of ours is longer. -/
def lim : Nat := 1099511627776

inductive Lay where
  | one
  | st (fs : List Lay)

mutual
def Lay.len : Lay → Nat
  | .one => 1
  | .st fs => Lay.lens fs
def Lay.lens : List Lay → Nat
  | [] => 0
  | f :: r => f.len + Lay.lens r
end

/-- Where a path leads: the cells ahead of it, and the layout there. -/
def Lay.at? : Lay → List Nat → Option (Nat × Lay)
  | l, [] => some (0, l)
  | .st fs, j :: p =>
    match fs[j]? with
    | some l => match l.at? p with
      | some (o, l') => some (Lay.lens (fs.take j) + o, l')
      | none => none
    | none => none
  | .one, _ :: _ => none

/-- Data without references: what is read and never written again. -/
inductive D where
  | c (x : Value)
  | agg (fs : List Lay) (ds : List D)
  | sl (l : Lay) (xs : List D)
  | rp (l : Lay) (x : D) (p : List Nat)
  | fn (k : FuncId) (caps : List D)

/-- What a slot holds. -/
inductive V where
  | any
  | d (x : D)
  | agg (fs : List Lay) (vs : List V)
  | tup (vs : List V)
  | ref (l : Lay) (i off n : Nat)
  | ptr (l : Lay) (i k : Nat) (p : List Nat)
  | fn (k : FuncId) (caps : List V)

/-- Where a path leads in data. -/
def D.at? : D → Lay → List Nat → Option (Nat × Lay × D)
  | x, l, [] => some (0, l, x)
  | .agg fs ds, _, j :: p =>
    match fs[j]?, ds[j]? with
    | some l', some x => match x.at? l' p with
      | some (o, l'', y) => some (Lay.lens (fs.take j) + o, l'', y)
      | none => none
    | _, _ => none
  | _, _, _ :: _ => none

def V.at? : V → Lay → List Nat → Option (Nat × Lay × V)
  | v, l, [] => some (0, l, v)
  | .agg fs vs, _, j :: p =>
    match fs[j]?, vs[j]? with
    | some l', some x => match x.at? l' p with
      | some (o, l'', y) => some (Lay.lens (fs.take j) + o, l'', y)
      | none => none
    | _, _ => none
  | .d x, l, j :: p => match x.at? l (j :: p) with
    | some (o, l', y) => some (o, l', .d y)
    | none => none
  | _, _, _ :: _ => none

/-- What is there when a part has been written. -/
def V.put? : V → List Nat → V → Option V
  | _, [], y => some y
  | .agg fs vs, j :: p, y =>
    match vs[j]? with
    | some x => match x.put? p y with
      | some x' => some (.agg fs (vs.set j x'))
      | none => none
    | none => none
  | .d (.agg fs ds), j :: p, y =>
    match ds[j]? with
    | some x => match V.put? (.d x) p y with
      | some x' => some (.agg fs ((ds.map V.d).set j x'))
      | none => none
    | none => none
  | _, _ :: _, _ => none

def Value.scalar : Value → Bool
  | .agg _ | .tuple _ => false
  | _ => true

def isAggV : Value → Bool
  | .agg _ => true
  | _ => false

def D.isAgg : D → Bool
  | .agg _ _ => true
  | _ => false

def V.isAgg : V → Bool
  | .agg _ _ => true
  | .d x => x.isAgg
  | _ => false

abbrev Beta := Nat → Option (Option (Nat × Nat))

def cellsAt (w : World) (b off : Nat) (ds : List Value) : Prop := ∀ j x, ds[j]? = some x → w.cell? ⟨b, off + j, none⟩ = some x

mutual
/-- The cells of data. -/
def DC (S : Nat → Prop) (w : World) : D → List Value → Prop
  | .c x, cs => cs = [x] ∧ Value.scalar x = true
  | .agg fs ds, cs => DCs S w fs ds cs
  | .sl l xs, cs => ∃ A n cap, cs = [.slice A n cap] ∧ n = xs.length ∧ n ≤ cap ∧ n ≤ lim ∧
      (n = 0 ∨ ∃ b off ds, A = some ⟨b, off, none⟩ ∧ S b ∧ DCs S w (List.replicate xs.length l) xs ds ∧ cellsAt w b off ds)
  | .rp l x p, cs => ∃ b off ds o l', l.at? p = some (o, l') ∧ cs = [.pointer (some ⟨b, off + o, none⟩)] ∧ S b ∧ ds.length = l.len ∧ DC S w x ds ∧ cellsAt w b off ds
  | .fn k caps, cs => ∃ xs, cs = [.func (.func k) #[] xs.toArray] ∧ DCs S w (List.replicate caps.length .one) caps xs
def DCs (S : Nat → Prop) (w : World) : List Lay → List D → List Value → Prop
  | fs, [], cs => fs = [] ∧ cs = []
  | fs, d :: ds, cs => ∃ f fr c1 c2, fs = f :: fr ∧ cs = c1 ++ c2 ∧ c1.length = f.len ∧ DC S w d c1 ∧ DCs S w fr ds c2
end

mutual
def VC (β : Beta) (S : Nat → Prop) (w : World) : V → List Value → Prop
  | .any, cs => ∀ x ∈ cs, Value.scalar x = true
  | .d x, cs => DC S w x cs
  | .agg fs vs, cs => VCs β S w fs vs cs
  | .tup _, _ => False
  | .ref l i off n, cs =>
    (β i = some none ∧ cs = [.slice none 0 0] ∧ off = 0 ∧ n = 0) ∨
    ∃ b C, β i = some (some (b, C)) ∧ cs = [.slice (some ⟨b, off * l.len, none⟩) n (C - off)] ∧ off + n ≤ C
  | .ptr l i k p, cs => ∃ b C o l', β i = some (some (b, C)) ∧ l.at? p = some (o, l') ∧ cs = [.pointer (some ⟨b, k * l.len + o, none⟩)]
  | .fn k caps, cs => ∃ xs, cs = [.func (.func k) #[] xs.toArray] ∧ VCs β S w (List.replicate caps.length .one) caps xs
def VCs (β : Beta) (S : Nat → Prop) (w : World) : List Lay → List V → List Value → Prop
  | fs, [], cs => fs = [] ∧ cs = []
  | fs, v :: vs, cs => ∃ f fr c1 c2, fs = f :: fr ∧ cs = c1 ++ c2 ∧ c1.length = f.len ∧ VC β S w v c1 ∧ VCs β S w fr vs c2
end

/-- A value that is no tuple. -/
def VR0 (β : Beta) (S : Nat → Prop) (w : World) (v : V) (x : Value) : Prop :=
  v = .any ∨ (VC β S w v x.cells.toList ∧ v.isAgg = isAggV x)

inductive All2 {A B : Type} (R : A → B → Prop) : List A → List B → Prop
  | nil : All2 R [] []
  | cons {a b l r} : R a b → All2 R l r → All2 R (a :: l) (b :: r)

def VR (β : Beta) (S : Nat → Prop) (w : World) : V → Value → Prop
  | .tup vs, x => ∃ xs : List Value, x = .tuple xs.toArray ∧ All2 (VR0 β S w) vs xs
  | v, x => VR0 β S w v x

structure Box where
  ty : TypeId
  l : Lay
  es : List V

def BoxR (β : Beta) (S : Nat → Prop) (w : World) (i : Nat) (bx : Box) : Prop :=
  bx.es.length ≤ lim ∧
  ((β i = some none ∧ bx.es = []) ∨
   ∃ (b C : Nat) (cur : Array Value) (ds : List Value), β i = some (some (b, C)) ∧ w.heap[b]? = some (.cells cur bx.ty (0, 0)) ∧ cur.size = C * bx.l.len ∧ (bx.es.length ≤ C ∧ C ≤ maxLen) ∧
     VCs β S w (List.replicate bx.es.length bx.l) bx.es ds ∧ ∀ (j : Nat) (x : Value), ds[j]? = some x → cur[j]? = some x)

/-- Below w0 only the blocks of D may have turned. -/
structure Pres (Dm : Nat → Prop) (w0 w : World) : Prop where
  os : w.os = w0.os
  tape : w.tape = w0.tape
  output : w.output = w0.output
  size : w0.heap.size ≤ w.heap.size
  block : ∀ b, b < w0.heap.size → ¬ Dm b → w.heap[b]? = w0.heap[b]?

abbrev Hp := List (Option Box)

/-- The boxes lie in memory, apart from each other and from what is read alone. -/
structure HeapR (β : Beta) (S : Nat → Prop) (w : World) (L : Hp) : Prop where
  bx : ∀ i b, L[i]? = some (some b) → BoxR β S w i b
  inj : ∀ i j b bx bx' c c', L[i]? = some (some bx) → L[j]? = some (some bx') → β i = some (some (b, c)) → β j = some (some (b, c')) → i = j
  own : ∀ i bx b c, L[i]? = some (some bx) → β i = some (some (b, c)) → ¬ S b
  fz : ∀ b, S b → b < w.heap.size
  un : ∀ i, L.length ≤ i → β i = none

structure Cx where
  w0 : World
  Dm : Nat → Prop
  S0 : Nat → Prop

abbrev Fr := Nat → V

structure Rel (C : Cx) (n : Nat) (f : Fr) (L : Hp) (a : Act) (w : World) (β : Beta) (S : Nat → Prop) : Prop where
  df : a.defers = []
  sz : a.tmps.size = n
  fr : ∀ i, VR β S w (f i) (a.tmps.getD i undef)
  hp : HeapR β S w L
  own : ∀ i bx b c, L[i]? = some (some bx) → β i = some (some (b, c)) → C.Dm b ∨ C.w0.heap.size ≤ b
  fz : ∀ b, S b → C.S0 b ∨ C.w0.heap.size ≤ b ∨ C.Dm b
  s0 : ∀ b, C.S0 b → S b
  pres : Pres C.Dm C.w0 w

/-! ### What stays -/
/-- From one state of memory to a later one: what is read alone reads on, what has a place keeps it. -/
structure Later (β : Beta) (S : Nat → Prop) (w : World) (β' : Beta) (S' : Nat → Prop) (w' : World) : Prop where
  be : ∀ i o, β i = some o → β' i = some o
  su : ∀ b, S b → S' b
  bl : ∀ b, S b → w'.heap[b]? = w.heap[b]?

theorem Later.refl (β : Beta) (S : Nat → Prop) (w : World) : Later β S w β S w := ⟨fun _ _ h => h, fun _ h => h, fun _ _ => rfl⟩
theorem Later.trans {β β' β'' : Beta} {S S' S'' : Nat → Prop} {w w' w'' : World} (h : Later β S w β' S' w') (k : Later β' S' w' β'' S'' w'') : Later β S w β'' S'' w'' :=
  ⟨fun i o e => k.be i o (h.be i o e), fun b e => k.su b (h.su b e), fun b e => (k.bl b (h.su b e)).trans (h.bl b e)⟩

theorem cellsAt_later {S : Nat → Prop} {w w' : World} (bl : ∀ b, S b → w'.heap[b]? = w.heap[b]?) {b off : Nat} {ds : List Value} (hb : S b) (h : cellsAt w b off ds) : cellsAt w' b off ds := by
  intro j x hx
  have := h j x hx
  unfold World.cell? at this ⊢
  rw [bl b hb]
  exact this

mutual
theorem DC_later {S S' : Nat → Prop} {w w' : World} (su : ∀ b, S b → S' b) (bl : ∀ b, S b → w'.heap[b]? = w.heap[b]?) :
    ∀ (x : D) (cs : List Value), DC S w x cs → DC S' w' x cs
  | .c x, cs, h => by simpa only [DC] using h
  | .agg fs ds, cs, h => by
    simp only [DC] at h ⊢
    exact DCs_later su bl ds fs cs h
  | .sl l xs, cs, h => by
    simp only [DC] at h ⊢
    obtain ⟨A, n, cap, h1, h2, h3, h4, h5⟩ := h
    refine ⟨A, n, cap, h1, h2, h3, h4, ?_⟩
    rcases h5 with h5 | ⟨b, off, ds, e, hb, hd, hc⟩
    · exact .inl h5
    · exact .inr ⟨b, off, ds, e, su b hb, DCs_later su bl xs _ ds hd, cellsAt_later bl hb hc⟩
  | .rp l x p, cs, h => by
    simp only [DC] at h ⊢
    obtain ⟨b, off, ds, o, l', h1, h2, hb, h3, hd, hc⟩ := h
    exact ⟨b, off, ds, o, l', h1, h2, su b hb, h3, DC_later su bl x ds hd, cellsAt_later bl hb hc⟩
  | .fn k caps, cs, h => by
    simp only [DC] at h ⊢
    obtain ⟨xs, h1, h2⟩ := h
    exact ⟨xs, h1, DCs_later su bl caps _ xs h2⟩
theorem DCs_later {S S' : Nat → Prop} {w w' : World} (su : ∀ b, S b → S' b) (bl : ∀ b, S b → w'.heap[b]? = w.heap[b]?) :
    ∀ (ds : List D) (fs : List Lay) (cs : List Value), DCs S w fs ds cs → DCs S' w' fs ds cs
  | [], fs, cs, h => by simpa only [DCs] using h
  | d :: ds, fs, cs, h => by
    simp only [DCs] at h ⊢
    obtain ⟨f, fr, c1, c2, h1, h2, h3, h4, h5⟩ := h
    exact ⟨f, fr, c1, c2, h1, h2, h3, DC_later su bl d c1 h4, DCs_later su bl ds fr c2 h5⟩
end

mutual
theorem VC_later {β β' : Beta} {S S' : Nat → Prop} {w w' : World} (h : Later β S w β' S' w') :
    ∀ (v : V) (cs : List Value), VC β S w v cs → VC β' S' w' v cs
  | .any, cs, hv => by simpa only [VC] using hv
  | .d x, cs, hv => by
    simp only [VC] at hv ⊢
    exact DC_later h.su h.bl x cs hv
  | .agg fs vs, cs, hv => by
    simp only [VC] at hv ⊢
    exact VCs_later h vs fs cs hv
  | .tup _, cs, hv => by simp only [VC] at hv
  | .ref l i off n, cs, hv => by
    simp only [VC] at hv ⊢
    rcases hv with ⟨h1, h2⟩ | ⟨b, C, h1, h2⟩
    · exact .inl ⟨h.be _ _ h1, h2⟩
    · exact .inr ⟨b, C, h.be _ _ h1, h2⟩
  | .ptr l i k p, cs, hv => by
    simp only [VC] at hv ⊢
    obtain ⟨b, C, o, l', h1, h2⟩ := hv
    exact ⟨b, C, o, l', h.be _ _ h1, h2⟩
  | .fn k caps, cs, hv => by
    simp only [VC] at hv ⊢
    obtain ⟨xs, h1, h2⟩ := hv
    exact ⟨xs, h1, VCs_later h caps _ xs h2⟩
theorem VCs_later {β β' : Beta} {S S' : Nat → Prop} {w w' : World} (h : Later β S w β' S' w') :
    ∀ (vs : List V) (fs : List Lay) (cs : List Value), VCs β S w fs vs cs → VCs β' S' w' fs vs cs
  | [], fs, cs, hv => by simpa only [VCs] using hv
  | v :: vs, fs, cs, hv => by
    simp only [VCs] at hv ⊢
    obtain ⟨f, fr, c1, c2, h1, h2, h3, h4, h5⟩ := hv
    exact ⟨f, fr, c1, c2, h1, h2, h3, VC_later h v c1 h4, VCs_later h vs fr c2 h5⟩
end

theorem VR0_later {β β' : Beta} {S S' : Nat → Prop} {w w' : World} (h : Later β S w β' S' w') {v : V} {x : Value} (hv : VR0 β S w v x) : VR0 β' S' w' v x := by
  rcases hv with hv | ⟨hv, e⟩
  · exact .inl hv
  · exact .inr ⟨VC_later h v _ hv, e⟩

theorem All2.mono {A B : Type} {R R' : A → B → Prop} (h : ∀ a b, R a b → R' a b) {l : List A} {r : List B} (k : All2 R l r) : All2 R' l r := by
  induction k with
  | nil => exact .nil
  | cons h1 _ ih => exact .cons (h _ _ h1) ih

theorem VR_of_VR0 {β : Beta} {S : Nat → Prop} {w : World} {v : V} {x : Value} (h : VR0 β S w v x) : VR β S w v x := by
  cases v with
  | tup vs => rcases h with h | ⟨h, _⟩
              · cases h
              · simp only [VC] at h
  | _ => exact h

theorem VR_later {β β' : Beta} {S S' : Nat → Prop} {w w' : World} (h : Later β S w β' S' w') {v : V} {x : Value} (hv : VR β S w v x) : VR β' S' w' v x := by
  cases v with
  | tup vs =>
    obtain ⟨xs, e, k⟩ := hv
    exact ⟨xs, e, k.mono fun _ _ => VR0_later h⟩
  | _ => exact VR0_later h hv

theorem BoxR_later {β β' : Beta} {S S' : Nat → Prop} {w w' : World} (h : Later β S w β' S' w') {i : Nat} {bx : Box}
    (hb : ∀ b c, β i = some (some (b, c)) → w'.heap[b]? = w.heap[b]?) (k : BoxR β S w i bx) : BoxR β' S' w' i bx := by
  obtain ⟨k0, k⟩ := k
  refine ⟨k0, ?_⟩
  rcases k with ⟨k1, k2⟩ | ⟨b, C, cur, ds, k1, k2, k3, k4, k5, k6⟩
  · exact .inl ⟨h.be _ _ k1, k2⟩
  · exact .inr ⟨b, C, cur, ds, h.be _ _ k1, (hb b C k1).trans k2, k3, k4, VCs_later h _ _ _ k5, k6⟩

theorem Pres.refl (Dm : Nat → Prop) (w : World) : Pres Dm w w := ⟨rfl, rfl, rfl, Nat.le_refl _, fun _ _ _ => rfl⟩

end Go.Eng

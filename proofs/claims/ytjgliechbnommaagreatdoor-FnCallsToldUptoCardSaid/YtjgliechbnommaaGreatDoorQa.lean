/- The engine and the contracts of the functions that the claim reaches (texts packed, part 1). -/
import Derived.WalkKit
import Derived.Orders
import Derived.WalkSpells
import Derived.Laws.Strings
import Derived.Laws.CopyRow
import Derived.Laws.Slices
import Derived.Maps.AppendAt
import Derived.Laws.MakeOwn
import Derived.IntWalk
import Derived.Lib.ItoaNum
import Derived.Lib.LaidTab
import Derived.RowKit3
import Derived.ChangeSame
import Derived.ChangeArms
import Derived.Test.YtjgliechbnommaaGreatDoorRows
import Derived.ProofKit
import Derived.OpenShut
import Derived.JoinedCond
import Derived.Carry
import Derived.Lib.ItoaLen
import Derived.KernelRfl
import Derived.Shelf.Strings.Builder1
import Derived.Shelf.Strings.Builder2
import Derived.Shelf.Strings.OnBuilder
import Derived.Shelf.Small.Wraps
import Derived.Shelf.Strings.BuilderF
import Derived.Shelf.Strings.BuilderK
import Derived.Shelf.Strings.Builder2Cap
import Derived.Shelf.Strconv.Itoa0
import Derived.Shelf.Strconv.Itoa1
import Derived.Shelf.LaysM
import Derived.Shelf.Strconv.Itoa2
import Derived.Shelf.Strconv.Itoa3
import Derived.Shelf.Strings.BuilderCap
import Derived.Shelf.Slices.Turned
import Derived.Ground.Names2Prog
import Derived.Shelf.Slices.SearchI
import Derived.Test.YtjgliechbnommaaGreatDoorProg
set_option linter.unusedVariables false
set_option linter.unusedSimpArgs false
namespace Go.Eng
def lim : Nat := 1099511627776
inductive Lay where
 | one
 | st (fs : List Lay)
mutual
def Lay.len : Lay → Nat
 | .one => 1
 | .st fs => Lay.lens fs
def Lay.lens : List Lay → Nat
 | [] => 0
 | f :: r => f.len + Lay.lens r
end
def Lay.at? : Lay → List Nat → Option (Nat × Lay)
 | l, [] => some (0, l)
 | .st fs, j :: p =>
   match fs[j]? with
   | some l => match l.at? p with
     | some (o, l') => some (Lay.lens (fs.take j) + o, l')
     | none => none
   | none => none
 | .one, _ :: _ => none
inductive D where
 | c (x : Value)
 | agg (fs : List Lay) (ds : List D)
 | sl (l : Lay) (xs : List D)
 | rp (l : Lay) (x : D) (p : List Nat)
 | fn (k : FuncId) (caps : List D)
inductive V where
 | any
 | d (x : D)
 | agg (fs : List Lay) (vs : List V)
 | tup (vs : List V)
 | ref (l : Lay) (i off n : Nat)
 | ptr (l : Lay) (i k : Nat) (p : List Nat)
 | fn (k : FuncId) (caps : List V)
 | emp
def D.at? : D → Lay → List Nat → Option (Nat × Lay × D)
 | x, l, [] => some (0, l, x)
 | .agg fs ds, _, j :: p =>
   match fs[j]?, ds[j]? with
   | some l', some x => match x.at? l' p with
     | some (o, l'', y) => some (Lay.lens (fs.take j) + o, l'', y)
     | none => none
   | _, _ => none
 | _, _, _ :: _ => none
def V.at? : V → Lay → List Nat → Option (Nat × Lay × V)
 | v, l, [] => some (0, l, v)
 | .agg fs vs, _, j :: p =>
   match fs[j]?, vs[j]? with
   | some l', some x => match x.at? l' p with
     | some (o, l'', y) => some (Lay.lens (fs.take j) + o, l'', y)
     | none => none
   | _, _ => none
 | .d x, l, j :: p => match x.at? l (j :: p) with
   | some (o, l', y) => some (o, l', .d y)
   | none => none
 | _, _, _ :: _ => none
def V.put? : V → List Nat → V → Option V
 | _, [], y => some y
 | .agg fs vs, j :: p, y =>
   match vs[j]? with
   | some x => match x.put? p y with
     | some x' => some (.agg fs (vs.set j x'))
     | none => none
   | none => none
 | .d (.agg fs ds), j :: p, y =>
   match ds[j]? with
   | some x => match V.put? (.d x) p y with
     | some x' => some (.agg fs ((ds.map V.d).set j x'))
     | none => none
   | none => none
 | _, _ :: _, _ => none
def Value.scalar : Value → Bool
 | .agg _ | .tuple _ => false
 | _ => true
def isAggV : Value → Bool
 | .agg _ => true
 | _ => false
def D.isAgg : D → Bool
 | .agg _ _ => true
 | _ => false
def V.isAgg : V → Bool
 | .agg _ _ => true
 | .d x => x.isAgg
 | _ => false
abbrev Beta := Nat → Option (Option (Nat × Nat))
def cellsAt (w : World) (b off : Nat) (ds : List Value) : Prop := ∀ j x, ds[j]? = some x → w.cell? ⟨b, off + j, none⟩ = some x
mutual
def DC (S : Nat → Prop) (w : World) : D → List Value → Prop
 | .c x, cs => cs = [x] ∧ Value.scalar x = true
 | .agg fs ds, cs => DCs S w fs ds cs
 | .sl l xs, cs => ∃ A n cap, cs = [.slice A n cap] ∧ n = xs.length ∧ n ≤ cap ∧ n ≤ lim ∧
    (n = 0 ∨ ∃ b off ds, A = some ⟨b, off, none⟩ ∧ S b ∧ DCs S w (List.replicate xs.length l) xs ds ∧ cellsAt w b off ds)
 | .rp l x p, cs => ∃ b off ds o l', l.at? p = some (o, l') ∧ cs = [.pointer (some ⟨b, off + o, none⟩)] ∧ S b ∧ ds.length = l.len ∧ DC S w x ds ∧ cellsAt w b off ds
 | .fn k caps, cs => ∃ xs, cs = [.func (.func k) #[] xs.toArray] ∧ DCs S w (List.replicate caps.length .one) caps xs
def DCs (S : Nat → Prop) (w : World) : List Lay → List D → List Value → Prop
 | fs, [], cs => fs = [] ∧ cs = []
 | fs, d :: ds, cs => ∃ f fr c1 c2, fs = f :: fr ∧ cs = c1 ++ c2 ∧ c1.length = f.len ∧ DC S w d c1 ∧ DCs S w fr ds c2
end
mutual
def VC (β : Beta) (S : Nat → Prop) (w : World) : V → List Value → Prop
 | .any, cs => ∀ x ∈ cs, Value.scalar x = true
 | .d x, cs => DC S w x cs
 | .agg fs vs, cs => VCs β S w fs vs cs
 | .tup _, _ => False
 | .ref l i off n, cs =>
   (β i = some none ∧ cs = [.slice none 0 0] ∧ off = 0 ∧ n = 0) ∨
   ∃ b C, β i = some (some (b, C)) ∧ cs = [.slice (some ⟨b, off * l.len, none⟩) n (C - off)] ∧ off + n ≤ C
 | .ptr l i k p, cs => ∃ b C o l', β i = some (some (b, C)) ∧ l.at? p = some (o, l') ∧ cs = [.pointer (some ⟨b, k * l.len + o, none⟩)]
 | .fn k caps, cs => ∃ xs, cs = [.func (.func k) #[] xs.toArray] ∧ VCs β S w (List.replicate caps.length .one) caps xs
 | .emp, cs => ∃ A, cs = [.slice A 0 0]
def VCs (β : Beta) (S : Nat → Prop) (w : World) : List Lay → List V → List Value → Prop
 | fs, [], cs => fs = [] ∧ cs = []
 | fs, v :: vs, cs => ∃ f fr c1 c2, fs = f :: fr ∧ cs = c1 ++ c2 ∧ c1.length = f.len ∧ VC β S w v c1 ∧ VCs β S w fr vs c2
end
def VR0 (β : Beta) (S : Nat → Prop) (w : World) (v : V) (x : Value) : Prop :=
 v = .any ∨ (VC β S w v x.cells.toList ∧ v.isAgg = isAggV x)
inductive All2 {A B : Type} (R : A → B → Prop) : List A → List B → Prop
 | nil : All2 R [] []
 | cons {a b l r} : R a b → All2 R l r → All2 R (a :: l) (b :: r)
def VR (β : Beta) (S : Nat → Prop) (w : World) : V → Value → Prop
 | .tup vs, x => ∃ xs : List Value, x = .tuple xs.toArray ∧ All2 (VR0 β S w) vs xs
 | v, x => VR0 β S w v x
structure BT where
 t : TypeId
 ad : Option (Option (Nat × Nat))
instance (n : Nat) : OfNat BT n := ⟨⟨n, none⟩⟩
instance : Coe TypeId BT := ⟨fun t => ⟨t, none⟩⟩
structure Box where
 ty : BT
 l : Lay
 es : List V
def BoxR (β : Beta) (S : Nat → Prop) (w : World) (i : Nat) (bx : Box) : Prop :=
 bx.es.length ≤ lim ∧
 ((β i = some none ∧ bx.es = []) ∨
  ∃ (b C : Nat) (cur : Array Value) (ds : List Value), β i = some (some (b, C)) ∧ w.heap[b]? = some (.cells cur bx.ty.t (0, 0)) ∧ cur.size = C * bx.l.len ∧ (bx.es.length ≤ C ∧ C ≤ maxLen) ∧
   VCs β S w (List.replicate bx.es.length bx.l) bx.es ds ∧ ∀ (j : Nat) (x : Value), ds[j]? = some x → cur[j]? = some x)
structure Pres (Dm : Nat → Prop) (w0 w : World) : Prop where
 os : w.os = w0.os
 tape : w.tape = w0.tape
 output : w.output = w0.output
 size : w0.heap.size ≤ w.heap.size
 block : ∀ b, b < w0.heap.size → ¬ Dm b → w.heap[b]? = w0.heap[b]?
abbrev Hp := List (Option Box)
structure HeapR (β : Beta) (S : Nat → Prop) (w : World) (L : Hp) : Prop where
 bx : ∀ i b, L[i]? = some (some b) → BoxR β S w i b
 inj : ∀ i j b bx bx' c c', L[i]? = some (some bx) → L[j]? = some (some bx') → β i = some (some (b, c)) → β j = some (some (b, c')) → i = j
 own : ∀ i bx b c, L[i]? = some (some bx) → β i = some (some (b, c)) → ¬ S b
 fz : ∀ b, S b → b < w.heap.size
 un : ∀ i, L.length ≤ i → β i = none
 ad : ∀ i bx q, L[i]? = some (some bx) → bx.ty.ad = some q → β i = some q
structure Cx where
 w0 : World
 Dm : Nat → Prop
 S0 : Nat → Prop
abbrev Fr := Nat → V
structure Rel (C : Cx) (n : Nat) (f : Fr) (L : Hp) (a : Act) (w : World) (β : Beta) (S : Nat → Prop) : Prop where
 df : a.defers = []
 sz : a.tmps.size = n
 fr : ∀ i, VR β S w (f i) (a.tmps.getD i undef)
 hp : HeapR β S w L
 own : ∀ i bx b c, L[i]? = some (some bx) → β i = some (some (b, c)) → C.Dm b ∨ C.w0.heap.size ≤ b
 fz : ∀ b, S b → C.S0 b ∨ C.w0.heap.size ≤ b ∨ C.Dm b
 s0 : ∀ b, C.S0 b → S b
 pres : Pres C.Dm C.w0 w
structure Later (β : Beta) (S : Nat → Prop) (w : World) (β' : Beta) (S' : Nat → Prop) (w' : World) : Prop where
 be : ∀ i o, β i = some o → β' i = some o
 su : ∀ b, S b → S' b
 bl : ∀ b, S b → w'.heap[b]? = w.heap[b]?
theorem Later.refl (β : Beta) (S : Nat → Prop) (w : World) : Later β S w β S w := ⟨fun _ _ h => h, fun _ h => h, fun _ _ => rfl⟩
theorem Later.trans {β β' β'' : Beta} {S S' S'' : Nat → Prop} {w w' w'' : World} (h : Later β S w β' S' w') (k : Later β' S' w' β'' S'' w'') : Later β S w β'' S'' w'' :=
 ⟨fun i o e => k.be i o (h.be i o e), fun b e => k.su b (h.su b e), fun b e => (k.bl b (h.su b e)).trans (h.bl b e)⟩
theorem cellsAt_later {S : Nat → Prop} {w w' : World} (bl : ∀ b, S b → w'.heap[b]? = w.heap[b]?) {b off : Nat} {ds : List Value} (hb : S b) (h : cellsAt w b off ds) : cellsAt w' b off ds := by
 intro j x hx
 have := h j x hx
 unfold World.cell? at this ⊢
 rw [bl b hb]
 exact this
mutual
theorem DC_later {S S' : Nat → Prop} {w w' : World} (su : ∀ b, S b → S' b) (bl : ∀ b, S b → w'.heap[b]? = w.heap[b]?) :
 ∀ (x : D) (cs : List Value), DC S w x cs → DC S' w' x cs
 | .c x, cs, h => by simpa only [DC] using h
 | .agg fs ds, cs, h => by
   simp only [DC] at h ⊢
   exact DCs_later su bl ds fs cs h
 | .sl l xs, cs, h => by
   simp only [DC] at h ⊢
   obtain ⟨A, n, cap, h1, h2, h3, h4, h5⟩ := h
   refine ⟨A, n, cap, h1, h2, h3, h4, ?_⟩
   rcases h5 with h5 | ⟨b, off, ds, e, hb, hd, hc⟩
   ·exact .inl h5
   ·exact .inr ⟨b, off, ds, e, su b hb, DCs_later su bl xs _ ds hd, cellsAt_later bl hb hc⟩
 | .rp l x p, cs, h => by
   simp only [DC] at h ⊢
   obtain ⟨b, off, ds, o, l', h1, h2, hb, h3, hd, hc⟩ := h
   exact ⟨b, off, ds, o, l', h1, h2, su b hb, h3, DC_later su bl x ds hd, cellsAt_later bl hb hc⟩
 | .fn k caps, cs, h => by
   simp only [DC] at h ⊢
   obtain ⟨xs, h1, h2⟩ := h
   exact ⟨xs, h1, DCs_later su bl caps _ xs h2⟩
theorem DCs_later {S S' : Nat → Prop} {w w' : World} (su : ∀ b, S b → S' b) (bl : ∀ b, S b → w'.heap[b]? = w.heap[b]?) :
 ∀ (ds : List D) (fs : List Lay) (cs : List Value), DCs S w fs ds cs → DCs S' w' fs ds cs
 | [], fs, cs, h => by simpa only [DCs] using h
 | d :: ds, fs, cs, h => by
   simp only [DCs] at h ⊢
   obtain ⟨f, fr, c1, c2, h1, h2, h3, h4, h5⟩ := h
   exact ⟨f, fr, c1, c2, h1, h2, h3, DC_later su bl d c1 h4, DCs_later su bl ds fr c2 h5⟩
end
mutual
theorem VC_later {β β' : Beta} {S S' : Nat → Prop} {w w' : World} (h : Later β S w β' S' w') :
 ∀ (v : V) (cs : List Value), VC β S w v cs → VC β' S' w' v cs
 | .any, cs, hv => by simpa only [VC] using hv
 | .d x, cs, hv => by
   simp only [VC] at hv ⊢
   exact DC_later h.su h.bl x cs hv
 | .agg fs vs, cs, hv => by
   simp only [VC] at hv ⊢
   exact VCs_later h vs fs cs hv
 | .tup _, cs, hv => by simp only [VC] at hv
 | .ref l i off n, cs, hv => by
   simp only [VC] at hv ⊢
   rcases hv with ⟨h1, h2⟩ | ⟨b, C, h1, h2⟩
   ·exact .inl ⟨h.be _ _ h1, h2⟩
   ·exact .inr ⟨b, C, h.be _ _ h1, h2⟩
 | .ptr l i k p, cs, hv => by
   simp only [VC] at hv ⊢
   obtain ⟨b, C, o, l', h1, h2⟩ := hv
   exact ⟨b, C, o, l', h.be _ _ h1, h2⟩
 | .fn k caps, cs, hv => by
   simp only [VC] at hv ⊢
   obtain ⟨xs, h1, h2⟩ := hv
   exact ⟨xs, h1, VCs_later h caps _ xs h2⟩
 | .emp, cs, hv => by simpa only [VC] using hv
theorem VCs_later {β β' : Beta} {S S' : Nat → Prop} {w w' : World} (h : Later β S w β' S' w') :
 ∀ (vs : List V) (fs : List Lay) (cs : List Value), VCs β S w fs vs cs → VCs β' S' w' fs vs cs
 | [], fs, cs, hv => by simpa only [VCs] using hv
 | v :: vs, fs, cs, hv => by
   simp only [VCs] at hv ⊢
   obtain ⟨f, fr, c1, c2, h1, h2, h3, h4, h5⟩ := hv
   exact ⟨f, fr, c1, c2, h1, h2, h3, VC_later h v c1 h4, VCs_later h vs fr c2 h5⟩
end
theorem VR0_later {β β' : Beta} {S S' : Nat → Prop} {w w' : World} (h : Later β S w β' S' w') {v : V} {x : Value} (hv : VR0 β S w v x) : VR0 β' S' w' v x := by
 rcases hv with hv | ⟨hv, e⟩
 ·exact .inl hv
 ·exact .inr ⟨VC_later h v _ hv, e⟩
theorem All2.mono {A B : Type} {R R' : A → B → Prop} (h : ∀ a b, R a b → R' a b) {l : List A} {r : List B} (k : All2 R l r) : All2 R' l r := by
 induction k with
 | nil => exact .nil
 | cons h1 _ ih => exact .cons (h _ _ h1) ih
theorem VR_of_VR0 {β : Beta} {S : Nat → Prop} {w : World} {v : V} {x : Value} (h : VR0 β S w v x) : VR β S w v x := by
 cases v with
 | tup vs => rcases h with h | ⟨h, _⟩
             ·cases h
             ·simp only [VC] at h
 | _ => exact h
theorem VR_later {β β' : Beta} {S S' : Nat → Prop} {w w' : World} (h : Later β S w β' S' w') {v : V} {x : Value} (hv : VR β S w v x) : VR β' S' w' v x := by
 cases v with
 | tup vs =>
   obtain ⟨xs, e, k⟩ := hv
   exact ⟨xs, e, k.mono fun _ _ => VR0_later h⟩
 | _ => exact VR0_later h hv
theorem BoxR_later {β β' : Beta} {S S' : Nat → Prop} {w w' : World} (h : Later β S w β' S' w') {i : Nat} {bx : Box}
 (hb : ∀ b c, β i = some (some (b, c)) → w'.heap[b]? = w.heap[b]?) (k : BoxR β S w i bx) : BoxR β' S' w' i bx := by
 obtain ⟨k0, k⟩ := k
 refine ⟨k0, ?_⟩
 rcases k with ⟨k1, k2⟩ | ⟨b, C, cur, ds, k1, k2, k3, k4, k5, k6⟩
 ·exact .inl ⟨h.be _ _ k1, k2⟩
 ·exact .inr ⟨b, C, cur, ds, h.be _ _ k1, (hb b C k1).trans k2, k3, k4, VCs_later h _ _ _ k5, k6⟩
theorem Pres.refl (Dm : Nat → Prop) (w : World) : Pres Dm w w := ⟨rfl, rfl, rfl, Nat.le_refl _, fun _ _ _ => rfl⟩
end Go.Eng
set_option linter.unusedVariables false
set_option linter.unusedSimpArgs false
namespace Go.Eng
def upd (f : Fr) (i : Nat) (v : V) : Fr := fun j => bif Nat.beq j i then v else f j
theorem upd_self (f : Fr) (i : Nat) (v : V) : upd f i v i = v := by simp [upd]
theorem upd_ne (f : Fr) (i j : Nat) (v : V) (h : j ≠ i) : upd f i v j = f j := by
 have : Nat.beq j i = false := by
  cases e : Nat.beq j i
  ·rfl
  ·exact absurd (Nat.eq_of_beq_eq_true e) h
 simp [upd, this]
def updo (f : Fr) : Option Tmp → V → Fr
 | some d, v => upd f d v
 | none, _ => f
abbrev i64 (n : Int) : V := .d (.c (.int .i64 n))
abbrev bl (b : Bool) : V := .d (.c (.bool b))
abbrev st (s : ByteArray) : V := .d (.c (.string s))
abbrev nilsl : V := .d (.c (.slice none 0 0))
def ev (f : Fr) : Operand → V
 | .tmp t => f t
 | .const x => bif Value.scalar x then .d (.c x) else .any
 | .global g => .d (.c (.pointer (some ⟨g, 0, none⟩)))
 | .func k => .d (.fn k [])
theorem cells_scalar {x : Value} (h : Value.scalar x = true) : x.cells = #[x] := by cases x <;> first | rfl | simp [Value.scalar] at h
theorem isAgg_scalar {x : Value} (h : Value.scalar x = true) : isAggV x = false := by cases x <;> first | rfl | simp [Value.scalar] at h
theorem VR0_c {β : Beta} {S : Nat → Prop} {w : World} {x y : Value} : VR0 β S w (.d (.c x)) y ↔ y = x ∧ Value.scalar x = true := by
 constructor
 ·rintro (h | ⟨h, e⟩)
  ·cases h
  ·simp only [VC, DC] at h
   obtain ⟨h, hs⟩ := h
   have hy : isAggV y = false := by simpa [V.isAgg, D.isAgg] using e.symm
   have : y.cells = #[y] := by cases y <;> first | rfl | simp [isAggV] at hy
   rw [this] at h
   exact ⟨by simpa using h, hs⟩
 ·rintro ⟨rfl, hs⟩
  refine .inr ⟨?_, ?_⟩
  ·rw [cells_scalar hs]
   unfold VC DC
   exact ⟨rfl, hs⟩
  ·rw [isAgg_scalar hs]
   rfl
theorem VR_c {β : Beta} {S : Nat → Prop} {w : World} {x y : Value} : VR β S w (.d (.c x)) y ↔ y = x ∧ Value.scalar x = true := VR0_c
theorem VR_any (β : Beta) (S : Nat → Prop) (w : World) (x : Value) : VR β S w .any x := .inl rfl
theorem rel_ev {C : Cx} {n : Nat} {f : Fr} {L : Hp} {a : Act} {w : World} {β : Beta} {S : Nat → Prop} (h : Rel C n f L a w β S) (x : Operand) : VR β S w (ev f x) (a.eval x) := by
 cases x with
 | tmp t => exact h.fr t
 | const x =>
   show VR β S w (bif Value.scalar x then .d (.c x) else .any) x
   cases hs : Value.scalar x
   ·exact VR_any ..
   ·exact VR_c.2 ⟨rfl, hs⟩
 | global g => exact VR_c.2 ⟨rfl, rfl⟩
 | func k =>
   refine .inr ⟨?_, rfl⟩
   unfold ev VC DC
   exact ⟨[], rfl, by unfold DCs; exact ⟨rfl, rfl⟩⟩
theorem getD_put (a : Act) (d : Nat) (x : Value) (h : d < a.tmps.size) (i : Nat) : (a.put (some d) x).tmps.getD i undef = if i = d then x else a.tmps.getD i undef := by
 simp only [Act.put, Array.getD_eq_getD_getElem?, Array.getElem?_setIfInBounds]
 by_cases e : d = i
 ·subst e; simp [h]
 ·have : ¬ i = d := fun h => e h.symm
  simp [e, this]
theorem Rel.put {C : Cx} {n : Nat} {f : Fr} {L : Hp} {a : Act} {w : World} {β : Beta} {S : Nat → Prop} (h : Rel C n f L a w β S) {d : Nat} {v : V} {x : Value} (hd : d < n) (hv : VR β S w v x) :
 Rel C n (upd f d v) L (a.put (some d) x) w β S := by
 refine ⟨h.df, by simpa [Act.put] using h.sz, fun i => ?_, h.hp, h.own, h.fz, h.s0, h.pres⟩
 rw [getD_put a d x (by rw [h.sz]; exact hd)]
 by_cases e : i = d
 ·subst e; rw [upd_self]; simpa using hv
 ·rw [upd_ne _ _ _ _ e, if_neg e]; exact h.fr i
theorem Rel.puto {C : Cx} {n : Nat} {f : Fr} {L : Hp} {a : Act} {w : World} {β : Beta} {S : Nat → Prop} (h : Rel C n f L a w β S) {dst : Option Tmp} {v : V} {x : Value} (hd : ∀ d, dst = some d → d < n) (hv : VR β S w v x) :
 Rel C n (updo f dst v) L (a.put dst x) w β S := by
 cases dst with
 | none => exact h
 | some d => exact h.put (hd d rfl) hv
theorem Rel.later {C : Cx} {n : Nat} {f : Fr} {L L' : Hp} {a : Act} {w w' : World} {β β' : Beta} {S S' : Nat → Prop} (h : Rel C n f L a w β S) (k : Later β S w β' S' w') (hp : HeapR β' S' w' L')
 (own : ∀ i bx b c, L'[i]? = some (some bx) → β' i = some (some (b, c)) → C.Dm b ∨ C.w0.heap.size ≤ b) (fz : ∀ b, S' b → C.S0 b ∨ C.w0.heap.size ≤ b ∨ C.Dm b) (pres : Pres C.Dm C.w0 w') : Rel C n f L' a w' β' S' :=
 ⟨h.df, h.sz, fun i => VR_later k (h.fr i), hp, own, fz, fun b e => k.su b (h.s0 b e), pres⟩
section
variable (P : Program) (C : Cx) (n : Nat)
abbrev AQ := Exit → Act → World → Prop
def Fin (K : Act → World → Prop) (f : Fr) (L : Hp) : Prop := ∀ a w β S, Rel C n f L a w β S → K a w
def AC (c : Code) (Q : AQ) (f : Fr) (L : Hp) : Prop := ∀ a w β S, Rel C n f L a w β S → c.wp P Q a w
def AL (ops : Array Oper) (rest : List Oper) (Q : AQ) (f : Fr) (L : Hp) : Prop := ∀ a w β S, Rel C n f L a w β S → wpList P ops Q rest a w
def StQ (o : Oper) (f : Fr) (L : Hp) (Z : Fr → Hp → Prop) : Prop :=
 ∀ a w β S, Rel C n f L a w β S → ∀ (K : Act → World → Prop) (Qc : Exit → Act → World → Prop), (∀ a' w' β' S' f' L', Rel C n f' L' a' w' β' S' → Z f' L' → K a' w') → o.wp P a w K Qc
def Ev (o : Oper) (f : Fr) (L : Hp) (v : V) : Prop :=
 ∀ a w β S, Rel C n f L a w β S → ∃ x, (execOp a.eval o).run P w = .ok (.value x) w ∧ VR β S w v x
end
def thenQ (K : Act → World → Prop) (Q : AQ) : AQ
 | .normal => K
 | e => Q e
def inBlk (id : Nat) (Q : AQ) : AQ
 | .exit i => bif Nat.beq i id then Q .normal else Q (.exit i)
 | e => Q e
section
variable {P : Program} {C : Cx} {n : Nat} {Q : AQ} {f : Fr} {L : Hp}
theorem AC_seq {x y : Code} (h : ∀ K : Act → World → Prop, (∀ C f L, AC P C n y Q f L → Fin C n K f L) → AC P C n x (thenQ K Q) f L) : AC P C n (.seq x y) Q f L := by
 intro a w β S hr
 refine wp_seq (wp_mono (h (fun a w => y.wp P Q a w) (fun C f L k a w β S hr => k a w β S hr) a w β S hr) ?_)
 rintro e a w hq
 cases e with
 | normal => exact hq
 | _ => exact hq
theorem AC_skip (h : Fin C n (Q .normal) f L) : AC P C n .skip Q f L := fun a w β S hr => wp_skip (h a w β S hr)
theorem AC_ret (h : Fin C n (Q .ret) f L) : AC P C n .ret Q f L := fun a w β S hr => wp_ret (h a w β S hr)
theorem AC_exit {id : Nat} (h : Fin C n (Q (.exit id)) f L) : AC P C n (.exit id) Q f L := fun a w β S hr => wp_exit (h a w β S hr)
theorem AC_block {id : Nat} {c : Code} (h : AC P C n c (inBlk id Q) f L) : AC P C n (.block id c) Q f L := by
 intro a w β S hr
 refine wp_block (wp_mono (h a w β S hr) ?_)
 rintro e a w hq
 cases e with
 | exit i =>
   simp only [Exit.inBlock]
   by_cases e : i = id
   ·subst e
    rw [if_pos rfl]
    simpa [inBlk] using hq
   ·rw [if_neg e]
    have : Nat.beq i id = false := by
     cases h : Nat.beq i id
     ·rfl
     ·exact absurd (Nat.eq_of_beq_eq_true h) e
    simpa [inBlk, this] using hq
 | _ => exact hq
theorem eval_bool {a : Act} {w : World} {β : Beta} {S : Nat → Prop} (hr : Rel C n f L a w β S) {x : Operand} {b : Bool} (h : ev f x = bl b) : a.eval x = .bool b := by
 have := rel_ev hr x
 rw [h] at this
 exact (VR_c.1 this).1
theorem eval_c {a : Act} {w : World} {β : Beta} {S : Nat → Prop} (hr : Rel C n f L a w β S) {x : Operand} {y : Value} (h : ev f x = .d (.c y)) : a.eval x = y := by
 have := rel_ev hr x
 rw [h] at this
 exact (VR_c.1 this).1
theorem AC_cond {c : Operand} {x y : Code} {b : Bool} (hc : ev f c = bl b) (ht : b = true → AC P C n x Q f L) (hf : b = false → AC P C n y Q f L) : AC P C n (.cond c x y) Q f L := by
 intro a w β S hr
 exact wp_cond_split (eval_bool hr hc) (fun e => ht e a w β S hr) (fun e => hf e a w β S hr)
theorem AC_cond_t {c : Operand} {x y : Code} (hc : ev f c = bl true) (ht : AC P C n x Q f L) : AC P C n (.cond c x y) Q f L := AC_cond hc (fun _ => ht) (fun h => by cases h)
theorem AC_cond_f {c : Operand} {x y : Code} (hc : ev f c = bl false) (hf : AC P C n y Q f L) : AC P C n (.cond c x y) Q f L := AC_cond hc (fun h => by cases h) (fun _ => hf)
def Wk (C : Cx) (n : Nat) (f : Fr) (L : Hp) (Z : Fr → Hp → Prop) : Prop :=
 ∀ a w β S, Rel C n f L a w β S → ∃ f' L' β' S', Rel C n f' L' a w β' S' ∧ Z f' L'
theorem Wk.done {Z : Fr → Hp → Prop} (h : Z f L) : Wk C n f L Z := fun a w β S hr => ⟨f, L, β, S, hr, h⟩
theorem AC_wk {c : Code} (h : Wk C n f L (AC P C n c Q)) : AC P C n c Q f L := by
 intro a w β S hr
 obtain ⟨f', L', β', S', hr', k⟩ := h a w β S hr
 exact k a w β' S' hr'
theorem AL_wk {ops : Array Oper} {rest : List Oper} (h : Wk C n f L (AL P C n ops rest Q)) : AL P C n ops rest Q f L := by
 intro a w β S hr
 obtain ⟨f', L', β', S', hr', k⟩ := h a w β S hr
 exact k a w β' S' hr'
theorem Wk.mono {Z Z' : Fr → Hp → Prop} (h : Wk C n f L Z) (k : ∀ f L, Z f L → Z' f L) : Wk C n f L Z' := fun a w β S hr =>
 let ⟨f', L', β', S', hr', z⟩ := h a w β S hr; ⟨f', L', β', S', hr', k _ _ z⟩
theorem Fin_wk {K : Act → World → Prop} (h : Wk C n f L (fun f' L' => Fin C n K f' L')) : Fin C n K f L := by
 intro a w β S hr
 obtain ⟨f', L', β', S', hr', k⟩ := h a w β S hr
 exact k a w β' S' hr'
theorem AC_mono {c : Code} {Q' : AQ} (h : AC P C n c Q f L) (k : ∀ e a w, Q e a w → Q' e a w) : AC P C n c Q' f L := fun a w β S hr =>
 wp_mono (h a w β S hr) fun _ _ _ hq => k _ _ _ hq
def Held (n : Nat) (J : Cx → Fr → Hp → Prop) (a : Act) (w : World) : Prop := ∃ C f L β S, Rel C n f L a w β S ∧ J C f L
theorem AC_loopC {c : Code} (I : Nat → Cx → Fr → Hp → Prop) (h0 : Fin C n (fun a w => ∃ m, Held n (I m) a w) f L)
 (round : ∀ m C f L, I m C f L → AC P C n c (thenQ (fun a w => ∃ m', m' < m ∧ Held n (I m') a w) Q) f L) : AC P C n (.loop c) Q f L := by
 intro a w β S hr
 -- the measure of a state: the least m at which it stands
 let J : Act → World → Prop := fun a w => ∃ m, Held n (I m) a w
 have least : ∀ a w, J a w → ∃ m, Held n (I m) a w ∧ ∀ m', m' < m → ¬ Held n (I m') a w := by
  intro a w ⟨m, hm⟩
  induction m using Nat.strongRecOn with
  | _ m ih =>
    by_cases h : ∃ m', m' < m ∧ Held n (I m') a w
    ·obtain ⟨m', hlt, h'⟩ := h
     exact ih m' hlt h'
    ·exact ⟨m, hm, fun m' hlt h' => h ⟨m', hlt, h'⟩⟩
 classical
 let μ : Act → World → Nat := fun a w => if h : J a w then Classical.choose (least a w h) else 0
 refine wp_loop J μ ?_ ?_
 ·exact h0 a w β S hr
 ·intro a w hJ
  have hμ : μ a w = Classical.choose (least a w hJ) := by simp only [μ, dif_pos hJ]
  obtain ⟨⟨C1, f1, L1, β1, S1, hr1, hI1⟩, _⟩ := Classical.choose_spec (least a w hJ)
  rw [← hμ] at hI1
  refine wp_mono (round _ C1 f1 L1 hI1 a w β1 S1 hr1) ?_
  rintro e a' w' hq
  cases e with
  | normal =>
    obtain ⟨m', hlt, hh⟩ := hq
    have hJ' : J a' w' := ⟨m', hh⟩
    refine ⟨hJ', ?_⟩
    have hμ' : μ a' w' = Classical.choose (least a' w' hJ') := by simp only [μ, dif_pos hJ']
    obtain ⟨_, hmin⟩ := Classical.choose_spec (least a' w' hJ')
    rw [← hμ'] at hmin
    have : ¬ m' < μ a' w' := fun h => hmin m' h hh
    omega
  | _ => exact hq
theorem AC_loop {c : Code} (I : Nat → Fr → Hp → Prop) (m : Nat) (h0 : Wk C n f L (I m))
 (round : ∀ m f L, I m f L → AC P C n c (thenQ (fun a w => ∃ f L β S, Rel C n f L a w β S ∧ ∃ m', m' < m ∧ I m' f L) Q) f L) : AC P C n (.loop c) Q f L := by
 refine AC_loopC (fun m C' f L => C' = C ∧ I m f L) ?_ ?_
 ·intro a w β S hr
  obtain ⟨f', L', β', S', hr', hI⟩ := h0 a w β S hr
  exact ⟨m, C, f', L', β', S', hr', rfl, hI⟩
 ·rintro m _ f L ⟨rfl, hI⟩
  refine AC_mono (round m f L hI) fun e a w hq => ?_
  cases e with
  | normal =>
    obtain ⟨f', L', β', S', hr', m', hlt, hI'⟩ := hq
    exact ⟨m', hlt, _, f', L', β', S', hr', rfl, hI'⟩
  | _ => exact hq
theorem AC_region {id : Nat} {l : List Oper} (h : AL P C n l.toArray l Q f L) : AC P C n (.region id l.toArray false) Q f L := fun a w β S hr =>
 wp_region_lit (h a w β S hr)
theorem AL_nil {ops : Array Oper} (h : Fin C n (Q .normal) f L) : AL P C n ops [] Q f L := fun a w β S hr => wpList_nil (h a w β S hr)
theorem AL_stepQ {ops : Array Oper} {o : Oper} {rest : List Oper} {Z : Fr → Hp → Prop} (hg : o.guard = none) (hs : StQ P C n o f L Z) (h : ∀ f' L', Z f' L' → AL P C n ops rest Q f' L') : AL P C n ops (o :: rest) Q f L := by
 intro a w β S hr
 refine wpList_plain hg fun K hK => ?_
 exact hs a w β S hr K _ fun a' w' β' S' f' L' hr' hz => hK _ _ (h f' L' hz a' w' β' S' hr')
def dstOk (n : Nat) : Option Tmp → Bool
 | some d => Nat.blt d n
 | none => true
theorem dstOk_spec {dst : Option Tmp} (h : dstOk n dst = true) : ∀ d, dst = some d → d < n := by
 rintro d rfl
 simpa [dstOk, Nat.blt_eq] using h
theorem AL_ev {ops : Array Oper} {dst : Option Tmp} {op : Op} {ty : TypeId} {pos : String} {after : Array Edge} {rest : List Oper} {v : V} (he : Ev P C n ⟨dst, op, ty, pos, after, none⟩ f L v) (hd : dstOk n dst = true)
 (h : AL P C n ops rest Q (updo f dst v) L) : AL P C n ops (⟨dst, op, ty, pos, after, none⟩ :: rest) Q f L := by
 refine AL_stepQ (Z := fun f' L' => f' = updo f dst v ∧ L' = L) rfl ?_ (fun f' L' ⟨h1, h2⟩ => by subst h1; subst h2; exact h)
 intro a w β S hr K Qc hK
 obtain ⟨x, hx, hv⟩ := he a w β S hr
 unfold Oper.wp
 rw [hx, Oper.upon_value]
 exact hK _ _ β S _ _ (hr.puto (dstOk_spec hd) hv) ⟨rfl, rfl⟩
theorem AL_guard_t {ops : Array Oper} {dst : Option Tmp} {op : Op} {ty : TypeId} {pos : String} {after : Array Edge} {rest : List Oper} {j s : Nat} {want : Bool} (hj : (ops[j]?).bind (·.dst) = some s) (hs : Nat.blt s n = true)
 (hv : f s = bl want) (h : AL P C n ops (⟨dst, op, ty, pos, after, none⟩ :: rest) Q f L) : AL P C n ops (⟨dst, op, ty, pos, after, some (j, want)⟩ :: rest) Q f L := by
 intro a w β S hr
 have hsn : s < a.tmps.size := by rw [hr.sz]; simpa [Nat.blt_eq] using hs
 have h1 := hr.fr s
 rw [hv] at h1
 have h1 := (VR_c.1 h1).1
 have h2 := h a w β S hr
 unfold wpList at h2 ⊢
 have hy : Region.wanted ⟨dst, op, ty, pos, after, some (j, want)⟩ (yielded ops a.tmps) = true := by
  have : a.tmps[s]? = some (.bool want) := by
   rw [Array.getD_eq_getD_getElem?] at h1
   rw [Array.getElem?_eq_getElem hsn] at h1 ⊢
   simpa using h1
  simp [Region.wanted, yielded, hj, this]
 rw [if_pos hy]
 rw [if_pos (by simp [Region.wanted])] at h2
 exact h2
theorem AL_guard_f {ops : Array Oper} {dst : Option Tmp} {op : Op} {ty : TypeId} {pos : String} {after : Array Edge} {rest : List Oper} {j s : Nat} {want : Bool} (hj : (ops[j]?).bind (·.dst) = some s) (hs : Nat.blt s n = true)
 (hv : f s = bl (!want)) (hd : dstOk n dst = true) (h : AL P C n ops rest Q (updo f dst (.tup [])) L) : AL P C n ops (⟨dst, op, ty, pos, after, some (j, want)⟩ :: rest) Q f L := by
 intro a w β S hr
 have hsn : s < a.tmps.size := by rw [hr.sz]; simpa [Nat.blt_eq] using hs
 have h1 := hr.fr s
 rw [hv] at h1
 have h1 := (VR_c.1 h1).1
 unfold wpList
 have hy : Region.wanted ⟨dst, op, ty, pos, after, some (j, want)⟩ (yielded ops a.tmps) = false := by
  have : a.tmps[s]? = some (.bool (!want)) := by
   rw [Array.getD_eq_getD_getElem?] at h1
   rw [Array.getElem?_eq_getElem hsn] at h1 ⊢
   simpa using h1
  cases want <;> simp [Region.wanted, yielded, hj, this]
 rw [if_neg (by simp [hy])]
 exact h _ w β S (hr.puto (dstOk_spec hd) ⟨[], rfl, .nil⟩)
theorem AL_guard_u {ops : Array Oper} {dst : Option Tmp} {op : Op} {ty : TypeId} {pos : String} {after : Array Edge} {rest : List Oper} {j s : Nat} {want : Bool} (hj : (ops[j]?).bind (·.dst) = some s) (hs : Nat.blt s n = true)
 (hv : f s = .tup []) (hd : dstOk n dst = true) (h : AL P C n ops rest Q (updo f dst (.tup [])) L) : AL P C n ops (⟨dst, op, ty, pos, after, some (j, want)⟩ :: rest) Q f L := by
 intro a w β S hr
 have hsn : s < a.tmps.size := by rw [hr.sz]; simpa [Nat.blt_eq] using hs
 have h1 := hr.fr s
 rw [hv] at h1
 obtain ⟨xs0, h1, h2⟩ := h1
 cases h2
 unfold wpList
 have hy : Region.wanted ⟨dst, op, ty, pos, after, some (j, want)⟩ (yielded ops a.tmps) = false := by
  have : a.tmps[s]? = some (.tuple #[]) := by
   rw [Array.getD_eq_getD_getElem?] at h1
   rw [Array.getElem?_eq_getElem hsn] at h1 ⊢
   simpa using h1
  cases want <;> simp [Region.wanted, yielded, hj, this]
 rw [if_neg (by simp [hy])]
 exact h _ w β S (hr.puto (dstOk_spec hd) ⟨[], rfl, .nil⟩)
end
end Go.Eng
set_option linter.unusedVariables false
set_option linter.unusedSimpArgs false
namespace Go.Eng
theorem lens_replicate (k : Nat) (l : Lay) : Lay.lens (List.replicate k l) = k * l.len := by
 induction k with
 | zero => simp [Lay.lens]
 | succ k ih => simp only [List.replicate_succ, Lay.lens, ih, Nat.succ_mul]; omega
theorem DCs_len {S : Nat → Prop} {w : World} : ∀ (ds : List D) (fs : List Lay) (cs : List Value), DCs S w fs ds cs → cs.length = Lay.lens fs ∧ fs.length = ds.length
 | [], fs, cs, h => by
   simp only [DCs] at h
   obtain ⟨rfl, rfl⟩ := h
   simp [Lay.lens]
 | d :: ds, fs, cs, h => by
   simp only [DCs] at h
   obtain ⟨f, fr, c1, c2, rfl, rfl, h3, _, h5⟩ := h
   obtain ⟨h6, h7⟩ := DCs_len ds fr c2 h5
   simp [Lay.lens, h3, h6, h7]
theorem VCs_len {β : Beta} {S : Nat → Prop} {w : World} : ∀ (ds : List V) (fs : List Lay) (cs : List Value), VCs β S w fs ds cs → cs.length = Lay.lens fs ∧ fs.length = ds.length
 | [], fs, cs, h => by
   simp only [VCs] at h
   obtain ⟨rfl, rfl⟩ := h
   simp [Lay.lens]
 | d :: ds, fs, cs, h => by
   simp only [VCs] at h
   obtain ⟨f, fr, c1, c2, rfl, rfl, h3, _, h5⟩ := h
   obtain ⟨h6, h7⟩ := VCs_len ds fr c2 h5
   simp [Lay.lens, h3, h6, h7]
theorem DCs_get {S : Nat → Prop} {w : World} : ∀ (ds : List D) (fs : List Lay) (cs : List Value) (j : Nat) (l : Lay) (x : D), DCs S w fs ds cs → fs[j]? = some l → ds[j]? = some x →
 ∃ c1 c2 c3, cs = c1 ++ c2 ++ c3 ∧ c1.length = Lay.lens (fs.take j) ∧ c2.length = l.len ∧ DC S w x c2
 | [], fs, cs, j, l, x, h, h1, h2 => by simp at h2
 | d :: ds, fs, cs, j, l, x, h, h1, h2 => by
   simp only [DCs] at h
   obtain ⟨f, fr, c1, c2, rfl, rfl, h3, h4, h5⟩ := h
   cases j with
   | zero =>
     simp at h1 h2
     subst h1; subst h2
     exact ⟨[], c1, c2, by simp, by simp [Lay.lens], h3, h4⟩
   | succ j =>
     simp at h1 h2
     obtain ⟨d1, d2, d3, e, e1, e2, e3⟩ := DCs_get ds fr c2 j l x h5 h1 h2
     exact ⟨c1 ++ d1, d2, d3, by rw [e]; simp, by simp [Lay.lens, h3, e1], e2, e3⟩
theorem VCs_get {β : Beta} {S : Nat → Prop} {w : World} : ∀ (ds : List V) (fs : List Lay) (cs : List Value) (j : Nat) (l : Lay) (x : V), VCs β S w fs ds cs → fs[j]? = some l → ds[j]? = some x →
 ∃ c1 c2 c3, cs = c1 ++ c2 ++ c3 ∧ c1.length = Lay.lens (fs.take j) ∧ c2.length = l.len ∧ VC β S w x c2 ∧
  ∀ y d2, VC β S w y d2 → d2.length = l.len → VCs β S w fs (ds.set j y) (c1 ++ d2 ++ c3)
 | [], fs, cs, j, l, x, h, h1, h2 => by simp at h2
 | d :: ds, fs, cs, j, l, x, h, h1, h2 => by
   simp only [VCs] at h
   obtain ⟨f, fr, c1, c2, rfl, rfl, h3, h4, h5⟩ := h
   cases j with
   | zero =>
     simp at h1 h2
     subst h1; subst h2
     refine ⟨[], c1, c2, by simp, by simp [Lay.lens], h3, h4, fun y d2 hy hl => ?_⟩
     simp only [List.set_cons_zero, VCs]
     exact ⟨_, _, _, _, rfl, by simp, hl, hy, h5⟩
   | succ j =>
     simp at h1 h2
     obtain ⟨d1, d2, d3, e, e1, e2, e3, e4⟩ := VCs_get ds fr c2 j l x h5 h1 h2
     refine ⟨c1 ++ d1, d2, d3, by rw [e]; simp, by simp [Lay.lens, h3, e1], e2, e3, fun y dd hy hl => ?_⟩
     simp only [List.set_cons_succ, VCs]
     exact ⟨_, _, c1, d1 ++ dd ++ d3, rfl, by simp, h3, h4, e4 y dd hy hl⟩
theorem VCs_d {β : Beta} {S : Nat → Prop} {w : World} : ∀ (ds : List D) (fs : List Lay) (cs : List Value), VCs β S w fs (ds.map V.d) cs ↔ DCs S w fs ds cs
 | [], fs, cs => by simp only [List.map_nil, VCs, DCs]
 | d :: ds, fs, cs => by simp only [List.map_cons, VCs, DCs, VC, VCs_d ds]
theorem DC_at {S : Nat → Prop} {w : World} : ∀ (p : List Nat) (x : D) (l : Lay) (cs : List Value) (o : Nat) (l' : Lay) (y : D), DC S w x cs → cs.length = l.len → x.at? l p = some (o, l', y) →
 ∃ c1 c2 c3, cs = c1 ++ c2 ++ c3 ∧ c1.length = o ∧ c2.length = l'.len ∧ DC S w y c2
 | [], x, l, cs, o, l', y, h, hl, e => by
   cases x <;> (simp only [D.at?, Option.some.injEq, Prod.mk.injEq] at e; obtain ⟨rfl, rfl, rfl⟩ := e; exact ⟨[], cs, [], by simp, rfl, hl, h⟩)
 | j :: p, .agg fs ds, l, cs, o, l', y, h, hl, e => by
   simp only [D.at?] at e
   split at e
   ·rename_i l1 x1 e1 e2
    split at e
    ·rename_i o2 l2 y2 e3
     simp only [Option.some.injEq, Prod.mk.injEq] at e
     obtain ⟨rfl, rfl, rfl⟩ := e
     simp only [DC] at h
     obtain ⟨c1, c2, c3, rfl, h1, h2, h3⟩ := DCs_get ds fs cs j l1 x1 h e1 e2
     obtain ⟨d1, d2, d3, rfl, k1, k2, k3⟩ := DC_at p x1 l1 c2 _ _ _ h3 h2 e3
     exact ⟨c1 ++ d1, d2, d3 ++ c3, by simp, by simp [h1, k1], k2, k3⟩
    ·cases e
   ·cases e
 | j :: p, .c _, l, cs, o, l', y, h, hl, e => by simp [D.at?] at e
 | j :: p, .sl _ _, l, cs, o, l', y, h, hl, e => by simp [D.at?] at e
 | j :: p, .rp _ _ _, l, cs, o, l', y, h, hl, e => by simp [D.at?] at e
 | j :: p, .fn _ _, l, cs, o, l', y, h, hl, e => by simp [D.at?] at e
theorem VC_at {β : Beta} {S : Nat → Prop} {w : World} : ∀ (p : List Nat) (x : V) (l : Lay) (cs : List Value) (o : Nat) (l' : Lay) (y : V), VC β S w x cs → cs.length = l.len → x.at? l p = some (o, l', y) →
 ∃ c1 c2 c3, cs = c1 ++ c2 ++ c3 ∧ c1.length = o ∧ c2.length = l'.len ∧ VC β S w y c2 ∧
  ∀ z x' d2, x.put? p z = some x' → VC β S w z d2 → d2.length = l'.len → VC β S w x' (c1 ++ d2 ++ c3)
 | [], x, l, cs, o, l', y, h, hl, e => by
   have e' : some (0, l, x) = some (o, l', y) := by cases x <;> exact e
   simp only [Option.some.injEq, Prod.mk.injEq] at e'
   obtain ⟨rfl, rfl, rfl⟩ := e'
   refine ⟨[], cs, [], by simp, rfl, hl, h, fun z x' d2 hp hz hl => ?_⟩
   have hp' : some z = some x' := by cases x <;> first | exact hp | (rename_i q; cases q <;> exact hp)
   injection hp' with hp'
   subst hp'
   simpa using hz
 | j :: p, .agg fs vs, l, cs, o, l', y, h, hl, e => by
   simp only [V.at?] at e
   split at e
   ·rename_i l1 x1 e1 e2
    split at e
    ·rename_i o2 l2 y2 e3
     simp only [Option.some.injEq, Prod.mk.injEq] at e
     obtain ⟨rfl, rfl, rfl⟩ := e
     simp only [VC] at h
     obtain ⟨c1, c2, c3, rfl, h1, h2, h3, h4⟩ := VCs_get vs fs cs j l1 x1 h e1 e2
     obtain ⟨d1, d2, d3, rfl, k1, k2, k3, k4⟩ := VC_at p x1 l1 c2 _ _ _ h3 h2 e3
     refine ⟨c1 ++ d1, d2, d3 ++ c3, by simp, by simp [h1, k1], k2, k3, fun z x' dd hp hz hl => ?_⟩
     simp only [V.put?, e2] at hp
     split at hp
     ·rename_i x'' e4
      injection hp with hp
      subst hp
      simp only [VC]
      have := h4 x'' (d1 ++ dd ++ d3) (k4 z x'' dd e4 hz hl) (by simp at h2 ⊢; omega)
      simpa using this
     ·cases hp
    ·cases e
   ·cases e
 | j :: p, .d (.agg fs ds), l, cs, o, l', y, h, hl, e => by
   simp only [V.at?, D.at?] at e
   split at e
   ·rename_i o0 l0 y0 e0
    simp only [Option.some.injEq, Prod.mk.injEq] at e
    obtain ⟨rfl, rfl, rfl⟩ := e
    split at e0
    ·rename_i l1 x1 e1 e2
     split at e0
     ·rename_i o2 l2 y2 e3
      simp only [Option.some.injEq, Prod.mk.injEq] at e0
      obtain ⟨rfl, rfl, rfl⟩ := e0
      simp only [VC, DC] at h
      obtain ⟨c1, c2, c3, rfl, h1, h2, h3, h4⟩ := VCs_get (β := β) (ds.map V.d) fs cs j l1 (.d x1) ((VCs_d ds fs cs).2 h) e1 (by simp [e2])
      have e3' : (V.d x1).at? l1 p = some (o2, l2, .d y2) := by
       cases p with
       | nil =>
         have e3' : some (0, l1, x1) = some (o2, l2, y2) := by cases x1 <;> exact e3
         simp only [Option.some.injEq, Prod.mk.injEq] at e3'
         obtain ⟨rfl, rfl, rfl⟩ := e3'
         rfl
       | cons j' p' => simp only [V.at?, e3]
      obtain ⟨d1, d2, d3, rfl, k1, k2, k3, k4⟩ := VC_at p (.d x1) l1 c2 _ _ _ h3 h2 e3'
      refine ⟨c1 ++ d1, d2, d3 ++ c3, by simp, by simp [h1, k1], k2, k3, fun z x' dd hp hz hl => ?_⟩
      simp only [V.put?, e2] at hp
      split at hp
      ·rename_i x'' e4
       injection hp with hp
       subst hp
       simp only [VC]
       have := h4 x'' (d1 ++ dd ++ d3) (k4 z x'' dd e4 hz hl) (by simp at h2 ⊢; omega)
       simpa using this
      ·cases hp
     ·cases e0
    ·cases e0
   ·cases e
 | j :: p, .any, l, cs, o, l', y, h, hl, e => by simp [V.at?] at e
 | j :: p, .tup _, l, cs, o, l', y, h, hl, e => by simp [V.at?] at e
 | j :: p, .ref _ _ _ _, l, cs, o, l', y, h, hl, e => by simp [V.at?] at e
 | j :: p, .ptr _ _ _ _, l, cs, o, l', y, h, hl, e => by simp [V.at?] at e
 | j :: p, .fn _ _, l, cs, o, l', y, h, hl, e => by simp [V.at?] at e
 | j :: p, .d (.c _), l, cs, o, l', y, h, hl, e => by simp [V.at?, D.at?] at e
 | j :: p, .d (.sl _ _), l, cs, o, l', y, h, hl, e => by simp [V.at?, D.at?] at e
 | j :: p, .d (.rp _ _ _), l, cs, o, l', y, h, hl, e => by simp [V.at?, D.at?] at e
 | j :: p, .d (.fn _ _), l, cs, o, l', y, h, hl, e => by simp [V.at?, D.at?] at e
mutual
theorem DC_scalar {S : Nat → Prop} {w : World} : ∀ (x : D) (cs : List Value), DC S w x cs → ∀ u ∈ cs, Value.scalar u = true
 | .c x, cs, h => by
   simp only [DC] at h
   obtain ⟨rfl, hs⟩ := h
   simpa using hs
 | .agg fs ds, cs, h => by
   simp only [DC] at h
   exact DCs_scalar ds fs cs h
 | .sl l xs, cs, h => by
   simp only [DC] at h
   obtain ⟨A, n, cap, rfl, _⟩ := h
   simp [Value.scalar]
 | .rp l x p, cs, h => by
   simp only [DC] at h
   obtain ⟨b, off, ds, o, l', _, rfl, _⟩ := h
   simp [Value.scalar]
 | .fn k caps, cs, h => by
   simp only [DC] at h
   obtain ⟨xs, rfl, _⟩ := h
   simp [Value.scalar]
theorem DCs_scalar {S : Nat → Prop} {w : World} : ∀ (ds : List D) (fs : List Lay) (cs : List Value), DCs S w fs ds cs → ∀ u ∈ cs, Value.scalar u = true
 | [], fs, cs, h => by
   simp only [DCs] at h
   obtain ⟨_, rfl⟩ := h
   simp
 | d :: ds, fs, cs, h => by
   simp only [DCs] at h
   obtain ⟨f, fr, c1, c2, _, rfl, _, h4, h5⟩ := h
   intro u hu
   rcases List.mem_append.1 hu with hu | hu
   ·exact DC_scalar d c1 h4 u hu
   ·exact DCs_scalar ds fr c2 h5 u hu
end
mutual
theorem VC_scalar {β : Beta} {S : Nat → Prop} {w : World} : ∀ (x : V) (cs : List Value), VC β S w x cs → ∀ u ∈ cs, Value.scalar u = true
 | .any, cs, h => by simpa only [VC] using h
 | .d x, cs, h => by
   simp only [VC] at h
   exact DC_scalar x cs h
 | .agg fs ds, cs, h => by
   simp only [VC] at h
   exact VCs_scalar ds fs cs h
 | .tup _, cs, h => by simp only [VC] at h
 | .ref l i off n, cs, h => by
   simp only [VC] at h
   rcases h with ⟨_, rfl, _⟩ | ⟨b, C, _, rfl, _⟩ <;> simp [Value.scalar]
 | .ptr l i k p, cs, h => by
   simp only [VC] at h
   obtain ⟨b, C, o, l', _, _, rfl⟩ := h
   simp [Value.scalar]
 | .fn k caps, cs, h => by
   simp only [VC] at h
   obtain ⟨xs, rfl, _⟩ := h
   simp [Value.scalar]
 | .emp, cs, h => by
   simp only [VC] at h
   obtain ⟨A, rfl⟩ := h
   simp [Value.scalar]
theorem VCs_scalar {β : Beta} {S : Nat → Prop} {w : World} : ∀ (ds : List V) (fs : List Lay) (cs : List Value), VCs β S w fs ds cs → ∀ u ∈ cs, Value.scalar u = true
 | [], fs, cs, h => by
   simp only [VCs] at h
   obtain ⟨_, rfl⟩ := h
   simp
 | d :: ds, fs, cs, h => by
   simp only [VCs] at h
   obtain ⟨f, fr, c1, c2, _, rfl, _, h4, h5⟩ := h
   intro u hu
   rcases List.mem_append.1 hu with hu | hu
   ·exact VC_scalar d c1 h4 u hu
   ·exact VCs_scalar ds fr c2 h5 u hu
end
theorem oneCell_of_scalar {u : Value} (h : Value.scalar u = true) : u.oneCell' = true := by cases u <;> first | rfl | simp [Value.scalar] at h
end Go.Eng
set_option linter.unusedVariables false
set_option linter.unusedSimpArgs false
namespace Go.Eng
section
variable {P : Program} {C : Cx} {n : Nat} {f : Fr} {L : Hp} {dst : Option Tmp} {ty : TypeId} {pos : String} {after : Array Edge} {g : Option (Nat × Bool)}
theorem Ev_move {x : Operand} : Ev P C n ⟨dst, .move x, ty, pos, after, g⟩ f L (ev f x) := fun a w β S hr => ⟨_, rfl, rel_ev hr x⟩
theorem Ev_assign {x : Operand} : Ev P C n ⟨dst, .assign x, ty, pos, after, g⟩ f L (ev f x) := fun a w β S hr => ⟨_, rfl, rel_ev hr x⟩
theorem Ev_pick {c x y : Operand} {b : Bool} (hc : ev f c = bl b) : Ev P C n ⟨dst, .pick c x y, ty, pos, after, g⟩ f L (bif b then ev f x else ev f y) := by
 intro a w β S hr
 have := eval_bool hr hc
 refine ⟨if b then a.eval x else a.eval y, by simp [execOp, this, asBool], ?_⟩
 cases b
 ·exact rel_ev hr y
 ·exact rel_ev hr x
theorem Ev_run {o : Oper} {z : Value} (hz : Value.scalar z = true) (h : ∀ a w β S, Rel C n f L a w β S → (execOp a.eval o).run P w = .ok (.value z) w) : Ev P C n o f L (.d (.c z)) :=
 fun a w β S hr => ⟨z, h a w β S hr, VR_c.2 ⟨rfl, hz⟩⟩
theorem Ev_bin {op : BinOp} {t ty' : TypeId} {x y : Operand} {u v z : Value} (hx : ev f x = .d (.c u)) (hy : ev f y = .d (.c v)) (hz : Value.scalar z = true)
 (hrun : ∀ w, (do eqGuard op t x y u v; binOp op t u v : Sem Value).run P w = .ok z w) : Ev P C n ⟨dst, .binOp op t x y ty', ty, pos, after, g⟩ f L (.d (.c z)) := by
 refine Ev_run hz fun a w β S hr => ?_
 have h1 := eval_c hr hx
 have h2 := eval_c hr hy
 have h3 := hrun w
 show ((do pure (Next.value (← (do eqGuard op t x y (a.eval x) (a.eval y); binOp op t (a.eval x) (a.eval y) : Sem Value))) : Sem Next)).run P w = _
 rw [h1, h2, Sem.run_bind, h3]
 rfl
theorem Ev_add {t ty' : TypeId} {x y : Operand} {k : IntKind} {u v : Int} (hx : ev f x = .d (.c (.int k u))) (hy : ev f y = .d (.c (.int k v))) (z : Int) (hz : k.wrap (u + v) = z) :
 Ev P C n ⟨dst, .binOp .add t x y ty', ty, pos, after, g⟩ f L (.d (.c (.int k z))) :=
 Ev_bin hx hy rfl fun w => by rw [eqGuard_add, binOp_add]; simp [Op.intArith, hz, Result.andThen]
theorem Ev_sub {t ty' : TypeId} {x y : Operand} {k : IntKind} {u v : Int} (hx : ev f x = .d (.c (.int k u))) (hy : ev f y = .d (.c (.int k v))) (z : Int) (hz : k.wrap (u - v) = z) :
 Ev P C n ⟨dst, .binOp .sub t x y ty', ty, pos, after, g⟩ f L (.d (.c (.int k z))) :=
 Ev_bin hx hy rfl fun w => by rw [eqGuard_sub, binOp_sub]; simp [Op.intArith, hz, Result.andThen]
theorem Ev_mul {t ty' : TypeId} {x y : Operand} {k : IntKind} {u v : Int} (hx : ev f x = .d (.c (.int k u))) (hy : ev f y = .d (.c (.int k v))) (z : Int) (hz : k.wrap (u * v) = z) :
 Ev P C n ⟨dst, .binOp .mul t x y ty', ty, pos, after, g⟩ f L (.d (.c (.int k z))) :=
 Ev_bin hx hy rfl fun w => by rw [eqGuard_mul, binOp_mul]; simp [Op.intArith, hz, Result.andThen]
theorem Ev_quo {t ty' : TypeId} {x y : Operand} {k : IntKind} {u v : Int} (hx : ev f x = .d (.c (.int k u))) (hy : ev f y = .d (.c (.int k v))) (h0 : v ≠ 0) (z : Int) (hz : k.wrap (u.tdiv v) = z) :
 Ev P C n ⟨dst, .binOp .quo t x y ty', ty, pos, after, g⟩ f L (.d (.c (.int k z))) :=
 Ev_bin hx hy rfl fun w => by rw [eqGuard_quo, binOp_quo]; simp [Op.intDiv, h0, hz, Result.andThen]
theorem Ev_rem {t ty' : TypeId} {x y : Operand} {k : IntKind} {u v : Int} (hx : ev f x = .d (.c (.int k u))) (hy : ev f y = .d (.c (.int k v))) (h0 : v ≠ 0) :
 Ev P C n ⟨dst, .binOp .rem t x y ty', ty, pos, after, g⟩ f L (.d (.c (.int k (u.tmod v)))) :=
 Ev_bin hx hy rfl fun w => by rw [eqGuard_rem, binOp_rem]; simp [Op.intDiv, h0, Result.andThen]
theorem Ev_shr {t ty' : TypeId} {x y : Operand} {k k' : IntKind} {u v : Int} (hx : ev f x = .d (.c (.int k u))) (hy : ev f y = .d (.c (.int k' v))) (h0 : ¬ v < 0) :
 Ev P C n ⟨dst, .binOp .shr t x y ty', ty, pos, after, g⟩ f L (.d (.c (.int k (u.fdiv (2 ^ (min v.toNat k.bits)))))) :=
 Ev_bin hx hy rfl fun w => by rw [eqGuard_shr, binOp_shr]; simp [Op.shift, h0, Result.andThen]
theorem Ev_and {t ty' : TypeId} {x y : Operand} {k : IntKind} {u v : Int} (hx : ev f x = .d (.c (.int k u))) (hy : ev f y = .d (.c (.int k v))) :
 Ev P C n ⟨dst, .binOp .and t x y ty', ty, pos, after, g⟩ f L (.d (.c (.int k (k.wrap (BitVec.ofInt k.bits u &&& BitVec.ofInt k.bits v).toNat)))) :=
 Ev_bin hx hy rfl fun w => by rw [eqGuard_and, binOp_and]; simp [Op.intBits, Result.andThen]
theorem Ev_xor {t ty' : TypeId} {x y : Operand} {k : IntKind} {u v : Int} (hx : ev f x = .d (.c (.int k u))) (hy : ev f y = .d (.c (.int k v))) :
 Ev P C n ⟨dst, .binOp .xor t x y ty', ty, pos, after, g⟩ f L (.d (.c (.int k (k.wrap (BitVec.ofInt k.bits u ^^^ BitVec.ofInt k.bits v).toNat)))) :=
 Ev_bin hx hy rfl fun w => by rw [eqGuard_xor, binOp_xor]; simp [Op.intBits, Result.andThen]
theorem Ev_eql {t ty' : TypeId} {x y : Operand} {k : IntKind} {u v : Int} (hx : ev f x = .d (.c (.int k u))) (hy : ev f y = .d (.c (.int k v))) :
 Ev P C n ⟨dst, .binOp .eql t x y ty', ty, pos, after, g⟩ f L (bl (decide (u = v))) :=
 Ev_bin hx hy rfl fun w => by rw [eqGuard_at_int, binOp_eql]; simp [Result.andThen, BEq.beq, instBEqOfDecidableEq]
theorem Ev_neq {t ty' : TypeId} {x y : Operand} {k : IntKind} {u v : Int} (hx : ev f x = .d (.c (.int k u))) (hy : ev f y = .d (.c (.int k v))) :
 Ev P C n ⟨dst, .binOp .neq t x y ty', ty, pos, after, g⟩ f L (bl (!decide (u = v))) :=
 Ev_bin hx hy rfl fun w => by rw [eqGuard_at_int, binOp_neq]; simp [Result.andThen, bne, BEq.beq, instBEqOfDecidableEq]
theorem Ev_lss {t ty' : TypeId} {x y : Operand} {k : IntKind} {u v : Int} (hx : ev f x = .d (.c (.int k u))) (hy : ev f y = .d (.c (.int k v))) :
 Ev P C n ⟨dst, .binOp .lss t x y ty', ty, pos, after, g⟩ f L (bl (decide (u < v))) :=
 Ev_bin hx hy rfl fun w => by rw [eqGuard_lss, binOp_lss]; simp [Result.andThen]
theorem Ev_leq {t ty' : TypeId} {x y : Operand} {k : IntKind} {u v : Int} (hx : ev f x = .d (.c (.int k u))) (hy : ev f y = .d (.c (.int k v))) :
 Ev P C n ⟨dst, .binOp .leq t x y ty', ty, pos, after, g⟩ f L (bl (decide (u ≤ v))) :=
 Ev_bin hx hy rfl fun w => by rw [eqGuard_leq, binOp_leq]; simp [Result.andThen]
theorem Ev_gtr {t ty' : TypeId} {x y : Operand} {k : IntKind} {u v : Int} (hx : ev f x = .d (.c (.int k u))) (hy : ev f y = .d (.c (.int k v))) :
 Ev P C n ⟨dst, .binOp .gtr t x y ty', ty, pos, after, g⟩ f L (bl (decide (v < u))) :=
 Ev_bin hx hy rfl fun w => by rw [eqGuard_gtr, binOp_gtr]; simp [Result.andThen]
theorem Ev_geq {t ty' : TypeId} {x y : Operand} {k : IntKind} {u v : Int} (hx : ev f x = .d (.c (.int k u))) (hy : ev f y = .d (.c (.int k v))) :
 Ev P C n ⟨dst, .binOp .geq t x y ty', ty, pos, after, g⟩ f L (bl (decide (v ≤ u))) :=
 Ev_bin hx hy rfl fun w => by rw [eqGuard_geq, binOp_geq]; simp [Result.andThen]
theorem toList_eq (a b : ByteArray) : (a.toList == b.toList) = decide (a = b) := by
 by_cases h : a = b
 ·subst h; simp
 ·have : a.toList ≠ b.toList := by
   intro e
   apply h
   have e' : a.data.toList = b.data.toList := by
    rwa [ByteArray.toList_eq, ByteArray.toList_eq] at e
   cases a; cases b
   simp at e'
   simp [e']
  simp [h, this]
theorem Ev_seql {t ty' : TypeId} {x y : Operand} {u v : ByteArray} (hx : ev f x = st u) (hy : ev f y = st v) :
 Ev P C n ⟨dst, .binOp .eql t x y ty', ty, pos, after, g⟩ f L (bl (decide (u = v))) :=
 Ev_bin hx hy rfl fun w => by rw [eqGuard_at_string]; simp [binOp, Op.stringOp, Result.andThen, ← toList_eq]
theorem Ev_sneq {t ty' : TypeId} {x y : Operand} {u v : ByteArray} (hx : ev f x = st u) (hy : ev f y = st v) :
 Ev P C n ⟨dst, .binOp .neq t x y ty', ty, pos, after, g⟩ f L (bl (!decide (u = v))) :=
 Ev_bin hx hy rfl fun w => by rw [eqGuard_at_string]; simp only [binOp, Op.stringOp, toList_eq]; simp [Result.andThen]
def sless (u v : ByteArray) : Bool := Op.bytesLess u.toList v.toList
theorem Ev_sadd {t ty' : TypeId} {x y : Operand} {u v : ByteArray} (hx : ev f x = st u) (hy : ev f y = st v) (hb : u.size + v.size ≤ 4611686018427387904) :
 Ev P C n ⟨dst, .binOp .add t x y ty', ty, pos, after, g⟩ f L (st (u ++ v)) :=
 Ev_bin hx hy rfl fun w => by
  have : ¬ (((u.size + v.size : Nat) : Int) > IntKind.i64.max) := by rw [IntKind.max_i64]; omega
  rw [eqGuard_add]; simp only [binOp, Op.stringOp, if_neg this]; simp [Result.andThen]
theorem Ev_not {t : TypeId} {x : Operand} {b : Bool} (hx : ev f x = bl b) : Ev P C n ⟨dst, .unOp .not t x, ty, pos, after, g⟩ f L (bl (!b)) :=
 Ev_run rfl fun a w β S hr => by simp [execOp, eval_bool hr hx, Op.unary]
theorem Ev_neg {t : TypeId} {x : Operand} {k : IntKind} {u : Int} (hx : ev f x = .d (.c (.int k u))) (z : Int) (hz : k.wrap (-u) = z) : Ev P C n ⟨dst, .unOp .neg t x, ty, pos, after, g⟩ f L (.d (.c (.int k z))) :=
 Ev_run rfl fun a w β S hr => by simp [execOp, eval_c hr hx, Op.unary, Op.intArith, Int.zero_sub, hz]
def tyInt (P : Program) (t : TypeId) : Option IntKind := match P.underlying t with | some (.int k) => some k | _ => none
def tyElem (P : Program) (t : TypeId) : Option TypeId := match P.underlying t with | some (.slice e) => some e | _ => none
def tySize (P : Program) (t : TypeId) : Option Nat := (P.info? t).map (·.size)
def tyAgg (P : Program) (t : TypeId) : Option Bool := match P.underlying t with | some (.struct _) => some true | some (.array _ _) => some true | some _ => some false | none => none
def tyField (P : Program) (t : TypeId) (j : Nat) : Option (Nat × Bool) := match P.underlying t with
 | some (.struct fs) => match fs[j]? with
   | some fd => match P.info? fd.type with
     | some i => some (fd.offset, i.size != 0)
     | none => none
   | none => none
 | _ => none
def tyStr (P : Program) (t : TypeId) : Bool := match P.underlying t with | some .string => true | _ => false
def tyZero (P : Program) (t : TypeId) : Option (Option Value) := (P.info? t).map (·.zero)
def tyBytes (P : Program) (t : TypeId) : Option Nat := (P.info? t).map (·.bytes)
theorem Ev_conv_int {s d : TypeId} {x : Operand} {k k' : IntKind} {u : Int} (hs : (P.underlying s).isSome = true) (hd : tyInt P d = some k') (hx : ev f x = .d (.c (.int k u))) (z : Int) (hz : k'.wrap u = z) :
 Ev P C n ⟨dst, .convert s d x, ty, pos, after, g⟩ f L (.d (.c (.int k' z))) :=
 Ev_run rfl fun a w β S hr => by
  obtain ⟨ds, hs⟩ := Option.isSome_iff_exists.1 hs
  have hd' : P.underlying d = some (.int k') := by
   unfold tyInt at hd
   split at hd
   ·injection hd with hd; subst hd; assumption
   ·cases hd
  simp only [execOp, eval_c hr hx]
  simp only [convert, Sem.run_bind, run_underlying hs, run_underlying hd', Result.andThen]
  cases ds <;> simp [Conv.intToInt, hz, Result.andThen]
theorem elem_some {t e : TypeId} (h : tyElem P t = some e) : P.underlying t = some (.slice e) := by
 unfold tyElem at h
 split at h
 ·injection h with h; subst h; assumption
 ·cases h
abbrev callB (b : Builtin) (args : Array Operand) (ts : Array TypeId) : Op := .call { callee := .builtin b, args := args, argTypes := ts }
theorem run_len_s {t e ty : TypeId} (ht : P.underlying t = some (.slice e)) (A : Option Addr) (m c : Nat) (w : World) : (Builtin.len_ #[t] ty #[.slice A m c]).run P w = .ok (.int .i64 m) w := by
 simp [Builtin.len_, run_underlying ht, goInt, Result.andThen]
theorem Ev_len_of {t e : TypeId} {x : Operand} {m : Nat} (ht : tyElem P t = some e) (hx : ∀ a w β S, Rel C n f L a w β S → ∃ A c, a.eval x = .slice A m c) :
 Ev P C n ⟨dst, callB .len #[x] #[t], ty, pos, after, g⟩ f L (i64 m) :=
 Ev_run rfl fun a w β S hr => by
  obtain ⟨A, c, hx⟩ := hx a w β S hr
  simp [execOp, resolve, invoke, builtin, hx, run_len_s (elem_some ht), Result.andThen]
theorem VR_sl {β : Beta} {S : Nat → Prop} {w : World} {l : Lay} {xs : List D} {v : Value} (h : VR β S w (.d (.sl l xs)) v) :
 ∃ A cap, v = .slice A xs.length cap ∧ xs.length ≤ cap ∧ xs.length ≤ lim ∧ (xs.length = 0 ∨ ∃ b off ds, A = some ⟨b, off, none⟩ ∧ S b ∧ DCs S w (List.replicate xs.length l) xs ds ∧ cellsAt w b off ds) := by
 rcases h with h | ⟨h, e⟩
 ·cases h
 ·simp only [VC, DC] at h
  obtain ⟨A, m, cap, h1, rfl, h3, h4, h5⟩ := h
  have hv : isAggV v = false := by simpa [V.isAgg, D.isAgg] using e.symm
  have : v.cells = #[v] := by cases v <;> first | rfl | simp [isAggV] at hv
  rw [this] at h1
  simp at h1
  exact ⟨A, cap, h1, h3, h4, h5⟩
theorem VR_sl_mk {β : Beta} {S : Nat → Prop} {w : World} {l : Lay} {xs : List D} {A : Option Addr} {cap : Nat} (h3 : xs.length ≤ cap) (h4 : xs.length ≤ lim)
 (h5 : xs.length = 0 ∨ ∃ b off ds, A = some ⟨b, off, none⟩ ∧ S b ∧ DCs S w (List.replicate xs.length l) xs ds ∧ cellsAt w b off ds) : VR β S w (.d (.sl l xs)) (.slice A xs.length cap) := by
 refine .inr ⟨?_, rfl⟩
 simp only [VC, DC]
 exact ⟨A, _, cap, rfl, rfl, h3, h4, h5⟩
theorem one_cell {β : Beta} {S : Nat → Prop} {w : World} {v : V} {x : Value} (h : VR0 β S w v x) (hn : v ≠ .any) (ha : v.isAgg = false) : VC β S w v [x] := by
 rcases h with h | ⟨h, e⟩
 ·exact absurd h hn
 ·have : x.cells = #[x] := by cases x <;> first | rfl | (rw [ha] at e; simp [isAggV] at e)
  rwa [this] at h
theorem VR_ref {β : Beta} {S : Nat → Prop} {w : World} {l : Lay} {i off m : Nat} {v : Value} (h : VR β S w (.ref l i off m) v) :
 (β i = some none ∧ v = .slice none 0 0 ∧ off = 0 ∧ m = 0) ∨ ∃ b Cp, β i = some (some (b, Cp)) ∧ v = .slice (some ⟨b, off * l.len, none⟩) m (Cp - off) ∧ off + m ≤ Cp := by
 have := one_cell h (by simp) rfl
 simp only [VC] at this
 simpa using this
theorem VR_ref_mk {β : Beta} {S : Nat → Prop} {w : World} {l : Lay} {i off m : Nat} {v : Value} (h : (β i = some none ∧ v = .slice none 0 0 ∧ off = 0 ∧ m = 0) ∨ ∃ b Cp, β i = some (some (b, Cp)) ∧ v = .slice (some ⟨b, off * l.len, none⟩) m (Cp - off) ∧ off + m ≤ Cp) :
 VR β S w (.ref l i off m) v := by
 refine .inr ⟨?_, ?_⟩
 ·have : v.cells.toList = [v] := by rcases h with ⟨_, rfl, _⟩ | ⟨_, _, _, rfl, _⟩ <;> rfl
  rw [this]
  simp only [VC]
  simpa using h
 ·rcases h with ⟨_, rfl, _⟩ | ⟨_, _, _, rfl, _⟩ <;> rfl
theorem VR_ptr {β : Beta} {S : Nat → Prop} {w : World} {l : Lay} {i k : Nat} {p : List Nat} {v : Value} (h : VR β S w (.ptr l i k p) v) :
 ∃ b Cp o l', β i = some (some (b, Cp)) ∧ l.at? p = some (o, l') ∧ v = .pointer (some ⟨b, k * l.len + o, none⟩) := by
 have := one_cell h (by simp) rfl
 simp only [VC] at this
 simpa using this
theorem VR_ptr_mk {β : Beta} {S : Nat → Prop} {w : World} {l : Lay} {i k : Nat} {p : List Nat} {b Cp o : Nat} {l' : Lay} (h1 : β i = some (some (b, Cp))) (h2 : l.at? p = some (o, l')) : VR β S w (.ptr l i k p) (.pointer (some ⟨b, k * l.len + o, none⟩)) := by
 refine .inr ⟨?_, rfl⟩
 simp only [VC]
 exact ⟨b, Cp, o, l', h1, h2, rfl⟩
theorem VR_rp {β : Beta} {S : Nat → Prop} {w : World} {l : Lay} {x : D} {p : List Nat} {v : Value} (h : VR β S w (.d (.rp l x p)) v) :
 ∃ b off ds o l', l.at? p = some (o, l') ∧ v = .pointer (some ⟨b, off + o, none⟩) ∧ S b ∧ ds.length = l.len ∧ DC S w x ds ∧ cellsAt w b off ds := by
 have := one_cell h (by simp) rfl
 simp only [VC, DC] at this
 simpa using this
theorem VR_rp_mk {β : Beta} {S : Nat → Prop} {w : World} {l : Lay} {x : D} {p : List Nat} {b off o : Nat} {ds : List Value} {l' : Lay} (h1 : l.at? p = some (o, l')) (h2 : S b) (h3 : ds.length = l.len) (h4 : DC S w x ds) (h5 : cellsAt w b off ds) :
 VR β S w (.d (.rp l x p)) (.pointer (some ⟨b, off + o, none⟩)) := by
 refine .inr ⟨?_, rfl⟩
 simp only [VC, DC]
 exact ⟨b, off, ds, o, l', h1, rfl, h2, h3, h4, h5⟩
theorem Ev_len_sl {t e : TypeId} {x : Operand} {l : Lay} {xs : List D} (ht : tyElem P t = some e) (hx : ev f x = .d (.sl l xs)) : Ev P C n ⟨dst, callB .len #[x] #[t], ty, pos, after, g⟩ f L (i64 xs.length) :=
 Ev_len_of ht fun a w β S hr => by
  have := rel_ev hr x
  rw [hx] at this
  obtain ⟨A, cap, h, _⟩ := VR_sl this
  exact ⟨A, cap, h⟩
theorem Ev_len_ref {t e : TypeId} {x : Operand} {l : Lay} {i off m : Nat} (ht : tyElem P t = some e) (hx : ev f x = .ref l i off m) : Ev P C n ⟨dst, callB .len #[x] #[t], ty, pos, after, g⟩ f L (i64 m) :=
 Ev_len_of ht fun a w β S hr => by
  have := rel_ev hr x
  rw [hx] at this
  rcases VR_ref this with ⟨_, h, _, rfl⟩ | ⟨b, Cp, _, h, _⟩
  ·exact ⟨_, _, h⟩
  ·exact ⟨_, _, h⟩
theorem Ev_len_str {t : TypeId} {x : Operand} {s : ByteArray} (ht : tyStr P t = true) (hx : ev f x = st s) : Ev P C n ⟨dst, callB .len #[x] #[t], ty, pos, after, g⟩ f L (i64 s.size) :=
 Ev_run rfl fun a w β S hr => by
  have ht' : P.underlying t = some .string := by
   unfold tyStr at ht
   split at ht
   ·assumption
   ·cases ht
  simp [execOp, resolve, invoke, builtin, eval_c hr hx, Builtin.len_, run_underlying ht', goInt, Result.andThen]
end
end Go.Eng
set_option linter.unusedVariables false
set_option linter.unusedSimpArgs false
namespace Go.Eng
theorem len_take_rep (k m : Nat) (l : Lay) (h : k ≤ m) : Lay.lens ((List.replicate m l).take k) = k * l.len := by
 rw [List.take_replicate, Nat.min_eq_left h, lens_replicate]
theorem get_rep {k m : Nat} (l : Lay) (h : k < m) : (List.replicate m l)[k]? = some l := by simp [List.getElem?_replicate, h]
theorem lt_of_get {A : Type} {l : List A} {k : Nat} {x : A} (h : l[k]? = some x) : k < l.length := by
 rcases Nat.lt_or_ge k l.length with h' | h'
 ·exact h'
 ·rw [List.getElem?_eq_none h'] at h
  cases h
theorem cellsAt_mid {w : World} {b off : Nat} {c1 c2 c3 : List Value} (h : cellsAt w b off (c1 ++ c2 ++ c3)) : cellsAt w b (off + c1.length) c2 := by
 intro j x hx
 have hj := lt_of_get hx
 have := h (c1.length + j) x (by rw [List.append_assoc, List.getElem?_append_right (by omega), show c1.length + j - c1.length = j by omega, List.getElem?_append_left hj]; exact hx)
 rw [show off + c1.length + j = off + (c1.length + j) by omega]
 exact this
section
variable {P : Program} {C : Cx} {n : Nat} {f : Fr} {L : Hp} {dst : Option Tmp} {ty : TypeId} {pos : String} {after : Array Edge} {g : Option (Nat × Bool)}
theorem box_elem {β : Beta} {S : Nat → Prop} {w : World} {i : Nat} {bx : Box} {b Cp k : Nat} {e : V} (h : BoxR β S w i bx) (hb : β i = some (some (b, Cp))) (he : bx.es[k]? = some e) :
 ∃ cs, VC β S w e cs ∧ cs.length = bx.l.len ∧ cellsAt w b (k * bx.l.len) cs := by
 obtain ⟨_, h⟩ := h
 rcases h with ⟨h1, h2⟩ | ⟨b', C', cur, ds, h1, h2, h3, h4, h5, h6⟩
 ·rw [h1] at hb; cases hb
 ·rw [h1] at hb
  injection hb with hb; injection hb with hb; injection hb with hb hb'
  subst hb
  have hk := lt_of_get he
  obtain ⟨c1, c2, c3, e1, e2, e3, e4, _⟩ := VCs_get bx.es _ ds k bx.l e h5 (get_rep _ hk) he
  rw [len_take_rep _ _ _ (by omega)] at e2
  refine ⟨c2, e4, e3, ?_⟩
  have : cellsAt w b' 0 (c1 ++ c2 ++ c3) := by
   intro j x hx
   rw [← e1] at hx
   have := h6 j x hx
   simp [World.cell?, h2, this]
  have := cellsAt_mid this
  rwa [e2, Nat.zero_add] at this
theorem tyAgg_desc {t : TypeId} {ag : Bool} (h : tyAgg P t = some ag) : ∃ d, P.underlying t = some d ∧ (match d with | .struct _ | .array _ _ => true | _ => false) = ag := by
 unfold tyAgg at h
 split at h
 ·rename_i fs e; exact ⟨_, e, by injection h⟩
 ·rename_i k m e; exact ⟨_, e, by injection h⟩
 ·rename_i d h1 h2 e
  refine ⟨d, e, ?_⟩
  injection h with h
  subst h
  cases d <;> first | rfl | exact absurd rfl (h1 _) | exact absurd rfl (h2 _ _)
 ·cases h
theorem run_isAgg {t : TypeId} {ag : Bool} (h : tyAgg P t = some ag) (w : World) : (isAgg t).run P w = .ok ag w := by
 obtain ⟨d, hd, e⟩ := tyAgg_desc h
 subst e
 simp only [isAgg, Sem.run_bind, run_underlying hd, Result.andThen]
 cases d <;> rfl
theorem run_loadVar' {t : TypeId} {ag : Bool} {w : World} {b o : Nat} {cs : List Value} (ha : tyAgg P t = some ag) (hs : tySize P t = some cs.length) (h1 : ag = false → cs.length = 1) (hc : cellsAt w b o cs) :
 (loadVar t ⟨b, o, none⟩).run P w = .ok (if ag then .agg cs.toArray else cs.headD undef) w := by
 cases ag with
 | true =>
   have h2 : (loadCells ⟨b, o, none⟩ cs.length).run P w = .ok cs.toArray w := run_loadCells_list w _ cs fun j v h => by rw [Addr.add_lit]; exact hc j v h
   obtain ⟨i, hi, hsz⟩ := Option.map_eq_some_iff.1 hs
   have hsz' : (sizeOf t).run P w = .ok cs.length w := by simp [sizeOf, typeInfo, hi, hsz, Result.andThen]
   simp only [loadVar, Sem.run_bind, run_isAgg ha, Result.andThen, if_true, hsz', h2]
   rfl
 | false =>
   have h1 := h1 rfl
   match cs, h1 with
   | [x], _ =>
     have := hc 0 x rfl
     rw [Nat.add_zero] at this
     simp only [loadVar, Sem.run_bind, run_isAgg ha, Result.andThen]
     simp [this]
theorem VR0_of_cells {β : Beta} {S : Nat → Prop} {w : World} {y : V} {cs : List Value} (h : VC β S w y cs) (h1 : y.isAgg = false → cs.length = 1) : VR0 β S w y (if y.isAgg then .agg cs.toArray else cs.headD undef) := by
 cases e : y.isAgg with
 | true => exact .inr ⟨by simpa [Value.cells] using h, by simp [e, isAggV]⟩
 | false =>
   have := h1 e
   match cs, this with
   | [x], _ =>
     have hs := VC_scalar y _ h x (by simp)
     refine .inr ⟨?_, ?_⟩
     ·simp only [Bool.false_eq_true, if_false, List.headD_cons]
      rw [cells_scalar hs]
      exact h
     ·simp only [Bool.false_eq_true, if_false, List.headD_cons]
      rw [isAgg_scalar hs, e]
theorem Ev_load_ptr {t : TypeId} {x : Operand} {l l' l'' : Lay} {i k o : Nat} {p : List Nat} {bx : Box} {e y : V} (hx : ev f x = .ptr l i k p) (hL : L[i]? = some (some bx)) (hbl : bx.l = l) (he : bx.es[k]? = some e)
 (hp : e.at? l p = some (o, l', y)) (hq : l.at? p = some (o, l'')) (hs : tySize P t = some l'.len) {ag : Bool} (ha : tyAgg P t = some ag) (hag : y.isAgg = ag) (h1 : ag = false → l'.len = 1) :
 Ev P C n ⟨dst, .load t x, ty, pos, after, g⟩ f L y := by
 subst hag
 intro a w β S hr
 have hv := rel_ev hr x
 rw [hx] at hv
 obtain ⟨b, Cp, o2, l2, h2, h3, h4⟩ := VR_ptr hv
 rw [hq] at h3
 injection h3 with h3; injection h3 with h3 h3'
 subst h3; subst h3'; subst hbl
 obtain ⟨cs, k1, k2, k3⟩ := box_elem (hr.hp.bx i bx hL) h2 he
 obtain ⟨c1, c2, c3, rfl, q1, q2, q3, _⟩ := VC_at p e bx.l cs o l' y k1 k2 hp
 have hc := cellsAt_mid k3
 rw [q1] at hc
 refine ⟨if y.isAgg then .agg c2.toArray else c2.headD undef, ?_, VR_of_VR0 (VR0_of_cells q3 fun h => by rw [q2]; exact h1 h)⟩
 have hrun := run_loadVar' (P := P) (t := t) ha (by rw [q2]; exact hs) (fun h => by rw [q2]; exact h1 h) hc
 simp only [execOp, h4, Instr.loadAt, Instr.sureAddr, Sem.run_bind, Sem.run_pure, Result.andThen, hrun]
theorem Ev_load_rp {t : TypeId} {x : Operand} {l l' l'' : Lay} {o : Nat} {p : List Nat} {e y : D} (hx : ev f x = .d (.rp l e p))
 (hp : e.at? l p = some (o, l', y)) (hq : l.at? p = some (o, l'')) (hs : tySize P t = some l'.len) {ag : Bool} (ha : tyAgg P t = some ag) (hag : y.isAgg = ag) (h1 : ag = false → l'.len = 1) :
 Ev P C n ⟨dst, .load t x, ty, pos, after, g⟩ f L (.d y) := by
 subst hag
 intro a w β S hr
 have hv := rel_ev hr x
 rw [hx] at hv
 obtain ⟨b, off, ds, o2, l2, h2, h3, h4, h5, h6, h7⟩ := VR_rp hv
 rw [hq] at h2
 injection h2 with h2; injection h2 with h2 h2'
 subst h2; subst h2'
 obtain ⟨c1, c2, c3, rfl, q1, q2, q3⟩ := DC_at p e l ds o l' y h6 h5 hp
 have hc := cellsAt_mid h7
 rw [q1] at hc
 have hvc : VC β S w (.d y) c2 := by simpa only [VC] using q3
 refine ⟨if y.isAgg then .agg c2.toArray else c2.headD undef, ?_, VR_of_VR0 (VR0_of_cells hvc fun h => by rw [q2]; exact h1 h)⟩
 have hrun := run_loadVar' (P := P) (t := t) ha (by rw [q2]; exact hs) (fun h => by rw [q2]; exact h1 h) hc
 simp only [execOp, h3, Instr.loadAt, Instr.sureAddr, Sem.run_bind, Sem.run_pure, Result.andThen, hrun]
theorem tyField_run {s : TypeId} {j o : Nat} (h : tyField P s j = some (o, true)) (b off : Nat) (w : World) : (Instr.fieldAt s (.pointer (some ⟨b, off, none⟩)) j).run P w = .ok (.pointer (some ⟨b, off + o, none⟩)) w := by
 unfold tyField at h
 split at h
 ·rename_i fs e
  split at h
  ·rename_i fd e2
   split at h
   ·rename_i i e3
    injection h with h; injection h with h1 h2
    have hz : ¬ i.size = 0 := by simpa using h2
    have hsz : (sizeOf fd.type).run P w = .ok i.size w := by simp [sizeOf, typeInfo, e3, Result.andThen]
    simp only [Instr.fieldAt, Sem.run_bind, run_underlying e, Result.andThen, e2, Instr.sureAddr, Sem.run_pure, fieldPlace, hsz, if_neg hz, Addr.add_lit, h1]
   ·cases h
  ·cases h
 ·cases h
theorem Ev_fa_ptr {s : TypeId} {x : Operand} {l l1 l2 : Lay} {i k j o0 o : Nat} {p : List Nat} (hx : ev f x = .ptr l i k p) (hf : tyField P s j = some (o, true)) (h1 : l.at? p = some (o0, l1)) (h2 : l.at? (p ++ [j]) = some (o0 + o, l2)) :
 Ev P C n ⟨dst, .fieldAddr s x j, ty, pos, after, g⟩ f L (.ptr l i k (p ++ [j])) := by
 intro a w β S hr
 have hv := rel_ev hr x
 rw [hx] at hv
 obtain ⟨b, Cp, o2, l3, h3, h4, h5⟩ := VR_ptr hv
 rw [h1] at h4
 injection h4 with h4; injection h4 with h4 h4'
 subst h4
 refine ⟨.pointer (some ⟨b, k * l.len + (o0 + o), none⟩), ?_, VR_ptr_mk h3 h2⟩
 simp only [execOp, h5, Sem.run_bind, tyField_run hf, Result.andThen, Nat.add_assoc]
 rfl
theorem Ev_fa_rp {s : TypeId} {x : Operand} {l l1 l2 : Lay} {j o0 o : Nat} {p : List Nat} {e : D} (hx : ev f x = .d (.rp l e p)) (hf : tyField P s j = some (o, true)) (h1 : l.at? p = some (o0, l1)) (h2 : l.at? (p ++ [j]) = some (o0 + o, l2)) :
 Ev P C n ⟨dst, .fieldAddr s x j, ty, pos, after, g⟩ f L (.d (.rp l e (p ++ [j]))) := by
 intro a w β S hr
 have hv := rel_ev hr x
 rw [hx] at hv
 obtain ⟨b, off, ds, o2, l3, h3, h4, h5, h6, h7, h8⟩ := VR_rp hv
 rw [h1] at h3
 injection h3 with h3; injection h3 with h3 h3'
 subst h3
 refine ⟨.pointer (some ⟨b, off + (o0 + o), none⟩), ?_, VR_rp_mk h2 h5 h6 h7 h8⟩
 simp only [execOp, h4, Sem.run_bind, tyField_run hf, Result.andThen, Nat.add_assoc]
 rfl
theorem Ev_nilc_ptr {x : Operand} {l : Lay} {i k : Nat} {p : List Nat} (hx : ev f x = .ptr l i k p) : Ev P C n ⟨dst, .nilCheck x, ty, pos, after, g⟩ f L (.ptr l i k p) := by
 intro a w β S hr
 have hv := rel_ev hr x
 rw [hx] at hv
 obtain ⟨b, Cp, o2, l3, h3, h4, h5⟩ := VR_ptr hv
 exact ⟨_, by simp [execOp, h5], h5 ▸ hv⟩
theorem Ev_nilc_rp {x : Operand} {l : Lay} {e : D} {p : List Nat} (hx : ev f x = .d (.rp l e p)) : Ev P C n ⟨dst, .nilCheck x, ty, pos, after, g⟩ f L (.d (.rp l e p)) := by
 intro a w β S hr
 have hv := rel_ev hr x
 rw [hx] at hv
 obtain ⟨b, off, ds, o2, l3, h3, h4, h5⟩ := VR_rp hv
 exact ⟨_, by simp [execOp, h4], h4 ▸ hv⟩
theorem run_sizeOf' {t : TypeId} {m : Nat} (h : tySize P t = some m) (w : World) : (sizeOf t).run P w = .ok m w := by
 obtain ⟨i, hi, hsz⟩ := Option.map_eq_some_iff.1 h
 simp [sizeOf, typeInfo, hi, hsz, Result.andThen]
theorem run_indexAt' {t e : TypeId} {m : Nat} (ht : tyElem P t = some e) (hs : tySize P e = some m) (b off len cap : Nat) (k : IntKind) (j : Int) (h0 : 0 ≤ j) (h1 : j < len) (w : World) :
 (Instr.indexAt t (.slice (some ⟨b, off, none⟩) len cap) (.int k j)).run P w = .ok (.pointer (some ⟨b, off + j.toNat * m, none⟩)) w := by
 have hj : 0 ≤ j ∧ j < (len : Int) := ⟨h0, h1⟩
 simp [Instr.indexAt, asIntOf, run_underlying (elem_some ht), Result.andThen, hj, run_sizeOf' hs, Addr.add_lit]
theorem Ev_ix_sl {t e : TypeId} {x y : Operand} {k : IntKind} {j : Int} {l : Lay} {xs : List D} {z : D} (hx : ev f x = .d (.sl l xs)) (hy : ev f y = .d (.c (.int k j))) (ht : tyElem P t = some e) (hs : tySize P e = some l.len) (h0 : 0 ≤ j) (hz : xs[j.toNat]? = some z) :
 Ev P C n ⟨dst, .indexAddr t x y, ty, pos, after, g⟩ f L (.d (.rp l z [])) := by
 intro a w β S hr
 have hv := rel_ev hr x
 rw [hx] at hv
 obtain ⟨A, cap, h1, h2, h3, h4⟩ := VR_sl hv
 have hk := lt_of_get hz
 rcases h4 with h4 | ⟨b, off, ds, rfl, hb, hd, hc⟩
 ·omega
 ·obtain ⟨c1, c2, c3, rfl, q1, q2, q3⟩ := DCs_get xs _ ds j.toNat l z hd (get_rep _ hk) hz
  rw [len_take_rep _ _ _ (by omega)] at q1
  have hc' := cellsAt_mid hc
  rw [q1] at hc'
  refine ⟨.pointer (some ⟨b, off + j.toNat * l.len + 0, none⟩), ?_, VR_rp_mk (o := 0) (l' := l) (by cases l <;> rfl) hb q2 q3 hc'⟩
  simp only [execOp, h1, eval_c hr hy, Sem.run_bind, run_indexAt' ht hs b off xs.length cap k j h0 (by omega), Result.andThen, Nat.add_zero]
  rfl
theorem Ev_ix_ref {t e : TypeId} {x y : Operand} {k : IntKind} {j : Int} {l : Lay} {i off m : Nat} (hx : ev f x = .ref l i off m) (hy : ev f y = .d (.c (.int k j))) (ht : tyElem P t = some e) (hs : tySize P e = some l.len) (h0 : 0 ≤ j) (h1 : j < m) :
 Ev P C n ⟨dst, .indexAddr t x y, ty, pos, after, g⟩ f L (.ptr l i (off + j.toNat) []) := by
 intro a w β S hr
 have hv := rel_ev hr x
 rw [hx] at hv
 rcases VR_ref hv with ⟨_, _, _, h2⟩ | ⟨b, Cp, h2, h3, h4⟩
 ·omega
 ·refine ⟨.pointer (some ⟨b, (off + j.toNat) * l.len + 0, none⟩), ?_, VR_ptr_mk (o := 0) (l' := l) h2 (by cases l <;> rfl)⟩
  simp only [execOp, h3, eval_c hr hy, Sem.run_bind, run_indexAt' ht hs b _ m _ k j h0 h1, Result.andThen, Nat.add_zero, Nat.add_mul]
  rfl
theorem Ev_ix_str {t : TypeId} {x y : Operand} {k : IntKind} {j : Int} {s : ByteArray} {u : UInt8} (ht : tyStr P t = true) (hx : ev f x = st s) (hy : ev f y = .d (.c (.int k j))) (h0 : 0 ≤ j) (hu : s[j.toNat]? = some u) :
 Ev P C n ⟨dst, .index t x y, ty, pos, after, g⟩ f L (.d (.c (.int .u8 u.toNat))) :=
 Ev_run rfl fun a w β S hr => by
  have ht' : P.underlying t = some .string := by
   unfold tyStr at ht
   split at ht
   ·assumption
   ·cases ht
  simp [execOp, eval_c hr hx, eval_c hr hy, Instr.index, asIntOf, run_underlying ht', Result.andThen, h0, hu]
theorem run_sliceBound' (k : IntKind) (i : Int) (y : Nat) (code : BoundsCode) (h0 : 0 ≤ i) (h1 : i ≤ y) (w : World) : (Instr.sliceBound (.int k i) y code).run P w = .ok i.toNat w := by
 simp [Instr.sliceBound, asIntOf, Result.andThen, h0, h1]
def loV : Option V → Option Int | none => some 0 | some (.d (.c (.int _ i))) => some i | _ => none
def hiV (m : Nat) : Option V → Option Int | none => some m | some (.d (.c (.int _ i))) => some i | _ => none
theorem run_bounds {a : Act} {w : World} {β : Beta} {S : Nat → Prop} (hr : Rel C n f L a w β S) (isS : Bool) (len cap : Nat) {lo hi : Option Operand} {i j : Int} (hlo : loV (lo.map (ev f)) = some i) (hhi : hiV len (hi.map (ev f)) = some j)
 (h0 : 0 ≤ i) (h1 : i ≤ j) (h2 : j ≤ cap) : (Instr.sliceBounds isS len cap (lo.map a.eval) (hi.map a.eval) none).run P w = .ok (i.toNat, j.toNat, cap) w := by
 have hlo' : (lo = none ∧ i = 0) ∨ ∃ x k, lo = some x ∧ a.eval x = .int k i := by
  cases lo with
  | none => exact .inl ⟨rfl, by simpa [loV] using hlo.symm⟩
  | some x =>
    simp only [Option.map_some] at hlo
    unfold loV at hlo
    split at hlo
    ·rename_i e; cases e
    ·rename_i k i' e
     injection e with e; injection hlo with hlo; subst hlo
     exact .inr ⟨x, k, rfl, eval_c hr e⟩
    ·cases hlo
 have hhi' : (hi = none ∧ j = len) ∨ ∃ x k, hi = some x ∧ a.eval x = .int k j := by
  cases hi with
  | none => exact .inl ⟨rfl, by simpa [hiV] using hhi.symm⟩
  | some x =>
    simp only [Option.map_some] at hhi
    unfold hiV at hhi
    split at hhi
    ·rename_i e; cases e
    ·rename_i k i' e
     injection e with e; injection hhi with hhi; subst hhi
     exact .inr ⟨x, k, rfl, eval_c hr e⟩
    ·cases hhi
 rcases hhi' with ⟨rfl, rfl⟩ | ⟨x, k, rfl, hx⟩
 ·rcases hlo' with ⟨rfl, rfl⟩ | ⟨x', k', rfl, hx'⟩
  ·simp [Instr.sliceBounds, Result.andThen]
  ·have := run_sliceBound' (P := P) k' i len .sliceB h0 (by omega) w
   simp [Instr.sliceBounds, Result.andThen, hx', this]
 ·have hj := run_sliceBound' (P := P) k j cap (if isS then .sliceAcap else .sliceAlen) (by omega) h2 w
  rcases hlo' with ⟨rfl, rfl⟩ | ⟨x', k', rfl, hx'⟩
  ·simp [Instr.sliceBounds, Result.andThen, hx, hj]
  ·have := run_sliceBound' (P := P) k' i j.toNat .sliceB h0 (by omega) w
   simp [Instr.sliceBounds, Result.andThen, hx, hj, hx', this]
theorem Ev_slice_str {t : TypeId} {x : Operand} {lo hi : Option Operand} {i j : Int} {s : ByteArray} (ht : tyStr P t = true) (hx : ev f x = st s) (hlo : loV (lo.map (ev f)) = some i) (hhi : hiV s.size (hi.map (ev f)) = some j)
 (h0 : 0 ≤ i) (h1 : i ≤ j) (h2 : j ≤ s.size) : Ev P C n ⟨dst, .slice t x lo hi none, ty, pos, after, g⟩ f L (st (s.extract i.toNat j.toNat)) :=
 Ev_run rfl fun a w β S hr => by
  have ht' : P.underlying t = some .string := by
   unfold tyStr at ht
   split at ht
   ·assumption
   ·cases ht
  have hb := run_bounds (P := P) hr false s.size s.size hlo hhi h0 h1 h2
  simp only [execOp, Instr.sliceAt, eval_c hr hx, Sem.run_bind, run_underlying ht', Result.andThen, Instr.slice, Option.map_none, Option.isSome_none, Bool.false_eq_true, if_false, hb]
  rfl
theorem Ev_extract {x : Operand} {vs : List V} {j : Nat} {v : V} (hx : ev f x = .tup vs) (hj : vs[j]? = some v) : Ev P C n ⟨dst, .extract x j, ty, pos, after, g⟩ f L v := by
 intro a w β S hr
 have hv := rel_ev hr x
 rw [hx] at hv
 obtain ⟨xs, e, h⟩ := hv
 have key : ∀ (vs : List V) (xs : List Value), All2 (VR0 β S w) vs xs → ∀ (j : Nat) (v : V), vs[j]? = some v → ∃ y : Value, xs[j]? = some y ∧ VR0 β S w v y := by
  intro vs xs h
  induction h with
  | nil => intro j v h; simp at h
  | cons h1 h2 ih =>
    intro j v hj
    cases j with
    | zero => simp at hj; subst hj; exact ⟨_, rfl, h1⟩
    | succ j => simp at hj; simpa using ih j v hj
 obtain ⟨y, hy, hv⟩ := key vs xs h j v hj
 refine ⟨y, ?_, VR_of_VR0 hv⟩
 simp [execOp, e, Instr.extract, hy, Result.andThen]
end
end Go.Eng
set_option linter.unusedVariables false
set_option linter.unusedSimpArgs false
namespace Go.Eng
def setβ (β : Beta) (i : Nat) (o : Option (Nat × Nat)) : Beta := fun j => if j = i then some o else β j
theorem setβ_self (β : Beta) (i : Nat) (o : Option (Nat × Nat)) : setβ β i o i = some o := by simp [setβ]
theorem setβ_ne (β : Beta) {i j : Nat} (o : Option (Nat × Nat)) (h : j ≠ i) : setβ β i o j = β j := by simp [setβ, h]
theorem BoxR.lt {β : Beta} {S : Nat → Prop} {w : World} {i b Cp : Nat} {bx : Box} (h : BoxR β S w i bx) (hb : β i = some (some (b, Cp))) : b < w.heap.size := by
 rcases h.2 with ⟨h1, _⟩ | ⟨b', C', cur, ds, h1, h2, _⟩
 ·rw [h1] at hb; cases hb
 ·rw [h1] at hb
  injection hb with hb; injection hb with hb; injection hb with hb hb'
  subst hb
  exact (Array.getElem?_eq_some_iff.1 h2).1
theorem later_new {β : Beta} {S : Nat → Prop} {w w' : World} {m : Nat} {o : Option (Nat × Nat)} (hm : β m = none) (hb : ∀ b, S b → w'.heap[b]? = w.heap[b]?) : Later β S w (setβ β m o) S w' := by
 refine ⟨fun i o' h => ?_, fun _ h => h, hb⟩
 by_cases e : i = m
 ·subst e; rw [hm] at h; cases h
 ·rw [setβ_ne _ _ e]; exact h
theorem get_snoc {A : Type} (l : List A) (x : A) (i : Nat) (y : A) (h : (l ++ [x])[i]? = some y) : (i < l.length ∧ l[i]? = some y) ∨ (i = l.length ∧ x = y) := by
 rcases Nat.lt_trichotomy i l.length with h1 | h1 | h1
 ·rw [List.getElem?_append_left h1] at h; exact .inl ⟨h1, h⟩
 ·subst h1; simp at h; exact .inr ⟨rfl, h⟩
 ·rw [List.getElem?_eq_none (by simp; omega)] at h; cases h
structure NewBox (β : Beta) (S : Nat → Prop) (w : World) (cur : Array Value) (Cp : Nat) (bx : Box) : Prop where
 sz : cur.size = Cp * bx.l.len
 le : bx.es.length ≤ Cp
 mx : Cp ≤ maxLen
 li : bx.es.length ≤ lim
 ds : ∃ ds : List Value, VCs β S w (List.replicate bx.es.length bx.l) bx.es ds ∧ ∀ (j : Nat) (x : Value), ds[j]? = some x → cur[j]? = some x
section
variable {P : Program} {C : Cx} {n : Nat} {f : Fr} {L : Hp} {Q : AQ}
theorem Rel.new {a : Act} {w w' : World} {β : Beta} {S : Nat → Prop} (h : Rel C n f L a w β S) {cur : Array Value} {Cp : Nat} {bx : Box} (hn : NewBox β S w cur Cp bx)
 (hw : w'.heap = w.heap.push (.cells cur bx.ty.t (0, 0))) (ho : w'.os = w.os) (ht : w'.tape = w.tape) (hu : w'.output = w.output) (hna : bx.ty.ad = none) :
 Rel C n f (L ++ [some bx]) a w' (setβ β L.length (some (w.heap.size, Cp))) S := by
 have old : ∀ b, b < w.heap.size → w'.heap[b]? = w.heap[b]? := fun b hb => by rw [hw, Array.getElem?_push, if_neg (by omega)]
 have lat : Later β S w (setβ β L.length (some (w.heap.size, Cp))) S w' := later_new (h.hp.un _ (Nat.le_refl _)) fun b hb => old b (h.hp.fz b hb)
 have hsz : w'.heap.size = w.heap.size + 1 := by rw [hw]; simp
 obtain ⟨ds, hds, hcur⟩ := hn.ds
 have cases_ : ∀ i b, (L ++ [some bx])[i]? = some (some b) → (i < L.length ∧ L[i]? = some (some b)) ∨ (i = L.length ∧ bx = b) := fun i b hi => by
  rcases get_snoc _ _ _ _ hi with h1 | ⟨h1, h2⟩
  ·exact .inl h1
  ·exact .inr ⟨h1, by injection h2⟩
 refine h.later lat ⟨?_, ?_, ?_, ?_, ?_, ?_⟩ ?_ h.fz ?_
 ·intro i b hi
  rcases cases_ i b hi with ⟨h1, h2⟩ | ⟨rfl, rfl⟩
  ·exact BoxR_later lat (fun b' c hb => old b' ((h.hp.bx i b h2).lt hb)) (h.hp.bx i b h2)
  ·exact ⟨hn.li, .inr ⟨w.heap.size, Cp, cur, ds, setβ_self _ _ _, by rw [hw]; simp, hn.sz, ⟨hn.le, hn.mx⟩, VCs_later lat _ _ _ hds, hcur⟩⟩
 ·intro i j b bx1 bx2 c c' hi hj hbi hbj
  rcases cases_ i _ hi with ⟨h1, h2⟩ | ⟨rfl, _⟩ <;> rcases cases_ j _ hj with ⟨k1, k2⟩ | ⟨rfl, _⟩
  ·rw [setβ_ne _ _ (by omega)] at hbi hbj
   exact h.hp.inj i j b bx1 bx2 c c' h2 k2 hbi hbj
  ·rw [setβ_ne _ _ (by omega)] at hbi
   rw [setβ_self] at hbj
   injection hbj with hbj; injection hbj with hbj; injection hbj with hbj _
   have := (h.hp.bx i _ h2).lt hbi
   omega
  ·rw [setβ_ne _ _ (by omega)] at hbj
   rw [setβ_self] at hbi
   injection hbi with hbi; injection hbi with hbi; injection hbi with hbi _
   have := (h.hp.bx j _ k2).lt hbj
   omega
  ·rfl
 ·intro i bx1 b c hi hbi hs
  rcases cases_ i _ hi with ⟨h1, h2⟩ | ⟨rfl, _⟩
  ·rw [setβ_ne _ _ (by omega)] at hbi
   exact h.hp.own i bx1 b c h2 hbi hs
  ·rw [setβ_self] at hbi
   injection hbi with hbi; injection hbi with hbi; injection hbi with hbi _
   have := h.hp.fz b hs
   omega
 ·intro b hb
  have := h.hp.fz b hb
  omega
 ·intro i hi
  simp at hi
  rw [setβ_ne _ _ (by omega)]
  exact h.hp.un i (by omega)
 ·intro i bx1 q hi hq
  rcases cases_ i _ hi with ⟨h1, h2⟩ | ⟨rfl, rfl⟩
  ·rw [setβ_ne _ _ (by omega)]
   exact h.hp.ad i bx1 q h2 hq
  ·rw [hna] at hq; cases hq
 ·intro i bx1 b c hi hbi
  rcases cases_ i _ hi with ⟨h1, h2⟩ | ⟨rfl, _⟩
  ·rw [setβ_ne _ _ (by omega)] at hbi
   exact h.own i bx1 b c h2 hbi
  ·rw [setβ_self] at hbi
   injection hbi with hbi; injection hbi with hbi; injection hbi with hbi _
   have := h.pres.size
   exact .inr (by omega)
 ·exact ⟨ho.trans h.pres.os, ht.trans h.pres.tape, hu.trans h.pres.output, by have := h.pres.size; omega, fun b hb hd => (old b (by have := h.pres.size; omega)).trans (h.pres.block b hb hd)⟩
def D.len? : D → Nat
 | .agg fs _ => Lay.lens fs
 | _ => 1
def V.len? : V → Nat
 | .agg fs _ => Lay.lens fs
 | .d x => x.len?
 | _ => 1
theorem DC_len {S : Nat → Prop} {w : World} {x : D} {cs : List Value} (h : DC S w x cs) : cs.length = x.len? := by
 cases x with
 | c x => simp only [DC] at h; simp [h.1, D.len?]
 | agg fs ds => simp only [DC] at h; exact (DCs_len _ _ _ h).1
 | sl l xs => simp only [DC] at h; obtain ⟨A, m, cap, rfl, _⟩ := h; rfl
 | rp l x p => simp only [DC] at h; obtain ⟨_, _, _, _, _, _, rfl, _⟩ := h; rfl
 | fn k caps => simp only [DC] at h; obtain ⟨xs, rfl, _⟩ := h; rfl
theorem VC_len {β : Beta} {S : Nat → Prop} {w : World} {v : V} {cs : List Value} (hv : v ≠ .any) (h : VC β S w v cs) : cs.length = v.len? := by
 cases v with
 | any => exact absurd rfl hv
 | d x => simp only [VC] at h; exact DC_len h
 | agg fs vs => simp only [VC] at h; exact (VCs_len _ _ _ h).1
 | tup vs => simp only [VC] at h
 | ref l i off m =>
   simp only [VC] at h
   rcases h with ⟨_, rfl, _⟩ | ⟨_, _, _, rfl, _⟩ <;> rfl
 | ptr l i k p => simp only [VC] at h; obtain ⟨_, _, _, _, _, _, rfl⟩ := h; rfl
 | fn k caps => simp only [VC] at h; obtain ⟨xs, rfl, _⟩ := h; rfl
 | emp => simp only [VC] at h; obtain ⟨A, rfl⟩ := h; rfl
def V.known : V → Bool
 | .any | .tup _ => false
 | _ => true
theorem known_cells {β : Beta} {S : Nat → Prop} {w : World} {v : V} {x : Value} (h : VR β S w v x) (hk : v.known = true) : VC β S w v x.cells.toList ∧ x.cells.toList.length = v.len? := by
 cases v with
 | any => cases hk
 | tup _ => cases hk
 | _ =>
   rcases h with h | ⟨h, _⟩
   ·cases h
   ·exact ⟨h, VC_len (by simp) h⟩
def ZeroOf (P : Program) (t : TypeId) (l : Lay) (zv : V) : Prop := ∃ z : Value, tyZero P t = some (some z) ∧ z.cells.size = l.len ∧ ∀ β S w, VC β S w zv z.cells.toList
theorem zeroValue_run {t : TypeId} {z : Value} (h : tyZero P t = some (some z)) (w : World) : (zeroValue t).run P w = .ok z w := by
 obtain ⟨i, hi, hz⟩ := Option.map_eq_some_iff.1 h
 simp [zeroValue, typeInfo, hi, hz, Result.andThen]
theorem at_nil (l : Lay) : l.at? [] = some (0, l) := by cases l <;> rfl
theorem VR_ptr0 {β : Beta} {S : Nat → Prop} {w : World} {l : Lay} {i b Cp : Nat} (h1 : β i = some (some (b, Cp))) : VR β S w (.ptr l i 0 []) (.pointer (some ⟨b, 0, none⟩)) := by
 have := VR_ptr_mk (S := S) (w := w) (k := 0) h1 (at_nil l)
 simpa using this
theorem run_newVar (t : TypeId) (v : Value) (w : World) : (newVar t v).run P w = .ok ⟨w.heap.size, 0, none⟩ (w.alloc (.cells v.cells t)) := rfl
theorem run_newRow (t : TypeId) (cs : Array Value) (w : World) : (newRow t cs).run P w = .ok ⟨w.heap.size, 0, none⟩ (w.alloc (.cells cs t)) := rfl
theorem AL_alloc {ops : Array Oper} {rest : List Oper} {dst : Option Tmp} {ty : TypeId} {pos : String} {after : Array Edge} {e : TypeId} {l : Lay} {zv : V} (hz : ZeroOf P e l zv) (m : Nat) (hm : L.length = m) (hd : dstOk n dst = true)
 (h : AL P C n ops rest Q (updo f dst (.ptr l m 0 [])) (L ++ [some ⟨e, l, [zv]⟩])) : AL P C n ops (⟨dst, .alloc e, ty, pos, after, none⟩ :: rest) Q f L := by
 subst hm
 refine AL_stepQ (Z := fun f' L' => f' = updo f dst (.ptr l L.length 0 []) ∧ L' = L ++ [some ⟨e, l, [zv]⟩]) rfl ?_ (fun f' L' ⟨h1, h2⟩ => by subst h1; subst h2; exact h)
 intro a w β S hr K Qc hK
 obtain ⟨z, hz, hsz, hvc⟩ := hz
 have hrun : (execOp a.eval ⟨dst, .alloc e, ty, pos, after, none⟩).run P w = .ok (.value (.pointer (some ⟨w.heap.size, 0, none⟩))) (w.alloc (.cells z.cells e)) := by
  simp [execOp, Instr.alloc, zeroValue_run hz, run_newVar, Result.andThen]
 unfold Oper.wp
 rw [hrun, Oper.upon_value]
 have hn : NewBox β S w z.cells 1 ⟨e, l, [zv]⟩ := ⟨by simp [hsz], Nat.le_refl _, by simp [maxLen], by simp [lim], z.cells.toList, by
  simp only [List.length_singleton, List.replicate_one, VCs]
  exact ⟨_, _, z.cells.toList, [], rfl, by simp, by simpa using hsz, hvc β S w, rfl, rfl⟩, fun j x hx => by simpa using hx⟩
 have hr' := hr.new (w' := w.alloc (.cells z.cells e)) hn rfl rfl rfl rfl rfl
 exact hK _ _ _ _ _ _ (hr'.puto (dstOk_spec hd) (VR_ptr0 (setβ_self _ _ _))) ⟨rfl, rfl⟩
theorem AL_box {ops : Array Oper} {rest : List Oper} {dst : Option Tmp} {ty : TypeId} {pos : String} {after : Array Edge} {e : TypeId} {x : Operand} {v : V} (l : Lay) (hx : ev f x = v) (hk : v.known = true) (hl : v.len? = l.len) (m : Nat) (hm : L.length = m) (hd : dstOk n dst = true)
 (h : AL P C n ops rest Q (updo f dst (.ptr l m 0 [])) (L ++ [some ⟨e, l, [v]⟩])) : AL P C n ops (⟨dst, .box e x, ty, pos, after, none⟩ :: rest) Q f L := by
 subst hm
 refine AL_stepQ (Z := fun f' L' => f' = updo f dst (.ptr l L.length 0 []) ∧ L' = L ++ [some ⟨e, l, [v]⟩]) rfl ?_ (fun f' L' ⟨h1, h2⟩ => by subst h1; subst h2; exact h)
 intro a w β S hr K Qc hK
 have hv := rel_ev hr x
 rw [hx] at hv
 obtain ⟨hvc, hsz⟩ := known_cells hv hk
 have hrun : (execOp a.eval ⟨dst, .box e x, ty, pos, after, none⟩).run P w = .ok (.value (.pointer (some ⟨w.heap.size, 0, none⟩))) (w.alloc (.cells (a.eval x).cells e)) := by
  simp [execOp, Instr.box, run_newVar, Result.andThen]
 unfold Oper.wp
 rw [hrun, Oper.upon_value]
 have hn : NewBox β S w (a.eval x).cells 1 ⟨e, l, [v]⟩ := ⟨by simpa [hl] using hsz, Nat.le_refl _, by simp [maxLen], by simp [lim], (a.eval x).cells.toList, by
  simp only [List.length_singleton, List.replicate_one, VCs]
  exact ⟨_, _, (a.eval x).cells.toList, [], rfl, by simp, by rw [hsz, hl], hvc, rfl, rfl⟩, fun j x hx => by simpa using hx⟩
 have hr' := hr.new (w' := w.alloc (.cells (a.eval x).cells e)) hn rfl rfl rfl rfl rfl
 exact hK _ _ _ _ _ _ (hr'.puto (dstOk_spec hd) (VR_ptr0 (setβ_self _ _ _))) ⟨rfl, rfl⟩
theorem getElem?_splice {A : Type} (cur : List A) (o : Nat) (vs : List A) (h : o + vs.length ≤ cur.length) (j : Nat) :
 (cur.take o ++ vs ++ cur.drop (o + vs.length))[j]? = if o ≤ j ∧ j < o + vs.length then vs[j - o]? else cur[j]? := by
 by_cases h1 : j < o
 ·rw [List.append_assoc, List.getElem?_append_left (by simp; omega), List.getElem?_take_of_lt h1, if_neg (by omega)]
 ·by_cases h2 : j < o + vs.length
  ·rw [List.append_assoc, List.getElem?_append_right (by simp; omega), List.getElem?_append_left (by simp; omega), if_pos ⟨by omega, h2⟩]
   congr 1
   simp; omega
  ·rw [List.getElem?_append_right (by simp; omega), if_neg (by omega), List.getElem?_drop]
   congr 1
   simp; omega
theorem Rel.store {a : Act} {w : World} {β : Beta} {S : Nat → Prop} (h : Rel C n f L a w β S) {i k b' C' o : Nat} {bx : Box} {e' : V} {c1 c2 c3 d1 d3 new ds : List Value} {cur : Array Value} (hL : L[i]? = some (some bx)) (h1 : β i = some (some (b', C')))
 (h2 : w.heap[b']? = some (.cells cur bx.ty.t (0, 0))) (h3 : cur.size = C' * bx.l.len) (h4 : bx.es.length ≤ C' ∧ C' ≤ maxLen) (h5 : VCs β S w (List.replicate bx.es.length bx.l) bx.es ds) (h6 : ∀ (j : Nat) (x : Value), ds[j]? = some x → cur[j]? = some x)
 (hn : new.length = c2.length) (ho : c1.length = o) (hds : ds = d1 ++ (c1 ++ c2 ++ c3) ++ d3) (hd1 : d1.length = k * bx.l.len) (hnew : VCs β S w (List.replicate bx.es.length bx.l) (bx.es.set k e') (d1 ++ (c1 ++ new ++ c3) ++ d3))
 (hs : ∀ u ∈ new, Value.scalar u = true) :
 ∃ w', (storeCells ⟨b', k * bx.l.len + o, none⟩ new).run P w = .ok () w' ∧ Rel C n f (L.set i (some { bx with es := bx.es.set k e' })) a w' β S := by
 have hli := (h.hp.bx i bx hL).1
 have hfit : k * bx.l.len + o + new.length ≤ cur.size := by
  have hl := (VCs_len _ _ _ h5).1
  rw [lens_replicate] at hl
  have : ds.length = d1.length + (c1.length + c2.length + c3.length) + d3.length := by rw [hds]; simp; omega
  have h7 : bx.es.length * bx.l.len ≤ C' * bx.l.len := Nat.mul_le_mul_right _ h4.1
  omega
 have hrun := run_storeCells_at P b' (k * bx.l.len + o) bx.ty.t new 0 cur w h2 (by simpa using hfit) (fun v hv => oneCell_of_scalar (hs v hv))
 simp only [Nat.add_zero] at hrun
 refine ⟨_, hrun, ?_⟩
 have hbS : ¬ S b' := h.hp.own i bx b' C' hL h1
 have lat : Later β S w β S (w.setRow b' (cur.toList.take (k * bx.l.len + o) ++ new ++ cur.toList.drop (k * bx.l.len + o + new.length)).toArray) :=
  ⟨fun _ _ h => h, fun _ h => h, fun c hc => setRow_other w b' c _ (fun e => hbS (e ▸ hc))⟩
 have hLi : i < L.length := lt_of_get hL
 have cases_ : ∀ j bx', (L.set i (some { bx with es := bx.es.set k e' }))[j]? = some (some bx') → (j ≠ i ∧ L[j]? = some (some bx')) ∨ (j = i ∧ bx' = { bx with es := bx.es.set k e' }) := fun j bx' hj => by
  rw [List.getElem?_set] at hj
  by_cases e : i = j
  ·subst e
   rw [if_pos rfl, if_pos hLi] at hj
   exact .inr ⟨rfl, by injection hj with hj; injection hj with hj; exact hj.symm⟩
  ·rw [if_neg e] at hj
   exact .inl ⟨fun h => e h.symm, hj⟩
 have live : ∀ j bx', (L.set i (some { bx with es := bx.es.set k e' }))[j]? = some (some bx') → ∃ bx'', L[j]? = some (some bx'') := fun j bx' hj => by
  rcases cases_ j bx' hj with ⟨_, h⟩ | ⟨rfl, _⟩
  ·exact ⟨_, h⟩
  ·exact ⟨_, hL⟩
 have hsz : (w.setRow b' (cur.toList.take (k * bx.l.len + o) ++ new ++ cur.toList.drop (k * bx.l.len + o + new.length)).toArray).heap.size = w.heap.size := by simp [World.setRow]
 refine h.later lat ⟨?_, ?_, ?_, ?_, ?_, ?_⟩ ?_ h.fz ?_
 ·intro j bx' hj
  rcases cases_ j bx' hj with ⟨hne, hj'⟩ | ⟨rfl, rfl⟩
  ·exact BoxR_later lat (fun c cc hc => setRow_other w b' c _ (fun e => hne (h.hp.inj j i b' bx' bx cc C' hj' hL (e ▸ hc) h1))) (h.hp.bx j bx' hj')
  ·refine ⟨by simpa using hli, .inr ⟨b', C', _, d1 ++ (c1 ++ new ++ c3) ++ d3, h1, setRow_heap w b' cur _ _ _ h2, ?_, by simpa using h4, by simpa using VCs_later lat _ _ _ hnew, ?_⟩⟩
   ·have : (cur.toList.take (k * bx.l.len + o) ++ new ++ cur.toList.drop (k * bx.l.len + o + new.length)).length = cur.size := by simp; omega
    simpa [h3] using this
   ·intro q x hx
    have hq : (cur.toList.take (k * bx.l.len + o) ++ new ++ cur.toList.drop (k * bx.l.len + o + new.length))[q]? = some x := by
     rw [getElem?_splice _ _ _ (by simpa using hfit)]
     have e1 : d1 ++ (c1 ++ new ++ c3) ++ d3 = (d1 ++ c1) ++ new ++ (c3 ++ d3) := by simp
     have e2 : ds = (d1 ++ c1) ++ c2 ++ (c3 ++ d3) := by rw [hds]; simp
     have hl1 : (d1 ++ c1).length = k * bx.l.len + o := by simp [hd1, ho]
     rw [e1] at hx
     by_cases hq1 : q < k * bx.l.len + o
     ·rw [if_neg (by omega)]
      rw [List.append_assoc, List.getElem?_append_left (by omega)] at hx
      have := h6 q x (by rw [e2, List.append_assoc, List.getElem?_append_left (by omega)]; exact hx)
      simpa using this
     ·by_cases hq2 : q < k * bx.l.len + o + new.length
      ·rw [if_pos ⟨by omega, hq2⟩]
       rw [List.append_assoc, List.getElem?_append_right (by omega), List.getElem?_append_left (by omega), hl1] at hx
       exact hx
      ·rw [if_neg (by omega)]
       rw [List.getElem?_append_right (by simp at hl1 ⊢; omega)] at hx
       have := h6 q x (by rw [e2, List.getElem?_append_right (by simp at hl1 ⊢; omega)]; simpa [hn] using hx)
       simpa using this
    simpa using hq
 ·intro j j' c bx1 bx2 cc cc' hj hj' hc hc'
  obtain ⟨y1, hy1⟩ := live j bx1 hj
  obtain ⟨y2, hy2⟩ := live j' bx2 hj'
  exact h.hp.inj j j' c y1 y2 cc cc' hy1 hy2 hc hc'
 ·intro j bx1 c cc hj hc
  obtain ⟨y1, hy1⟩ := live j bx1 hj
  exact h.hp.own j y1 c cc hy1 hc
 ·intro c hc
  rw [hsz]
  exact h.hp.fz c hc
 ·intro j hj
  exact h.hp.un j (by simpa using hj)
 ·intro j bx1 q hj hq
  rcases cases_ j bx1 hj with ⟨_, hj'⟩ | ⟨rfl, rfl⟩
  ·exact h.hp.ad j bx1 q hj' hq
  ·exact h.hp.ad _ bx q hL hq
 ·intro j bx1 c cc hj hc
  obtain ⟨y1, hy1⟩ := live j bx1 hj
  exact h.own j y1 c cc hy1 hc
 ·refine ⟨h.pres.os, h.pres.tape, h.pres.output, by rw [hsz]; exact h.pres.size, fun c hc hd => ?_⟩
  rw [setRow_other w b' c _ ?_]
  ·exact h.pres.block c hc hd
  ·intro e
   subst e
   rcases h.own i bx c C' hL h1 with h8 | h8
   ·exact hd h8
   ·omega
theorem storeVar_run {t : TypeId} {v : Value} {m : Nat} (hs : tySize P t = some m) (hv : v.cells.toList.length = m) (a : Addr) (w : World) : (storeVar t a v).run P w = (storeCells a v.cells.toList).run P w := by
 have h2 : ¬ (v.cells.size ≠ m) := by simpa using hv
 simp only [storeVar, Sem.run_bind, run_sizeOf' hs, Result.andThen, if_neg h2, Sem.run_pure]
theorem St_store {dst : Option Tmp} {ty : TypeId} {pos : String} {after : Array Edge} {t : TypeId} {x y : Operand} {l l' l'' : Lay} {i k o : Nat} {p : List Nat} {bx : Box} {e e0 e' v : V}
 (hx : ev f x = .ptr l i k p) (hy : ev f y = v) (hk : v.known = true) (hL : L[i]? = some (some bx)) (hbl : bx.l = l) (he : bx.es[k]? = some e)
 (hp : e.at? l p = some (o, l', e0)) (hq : l.at? p = some (o, l'')) (hlen : v.len? = l'.len) (hs : tySize P t = some l'.len) (hput : e.put? p v = some e') (hd : dstOk n dst = true) :
 StQ P C n ⟨dst, .store t x y, ty, pos, after, none⟩ f L (fun f' L' => f' = updo f dst .any ∧ L' = L.set i (some { bx with es := bx.es.set k e' })) := by
 intro a w β S hr K Qc hK
 have hv := rel_ev hr y
 rw [hy] at hv
 obtain ⟨hvc, hvl⟩ := known_cells hv hk
 have hxv := rel_ev hr x
 rw [hx] at hxv
 obtain ⟨b, Cp, o2, l2, h2, h3, h4⟩ := VR_ptr hxv
 rw [hq] at h3
 injection h3 with h3; injection h3 with h3 h3'
 subst h3; subst h3'; subst hbl
 have hbr := hr.hp.bx i bx hL
 rcases hbr.2 with ⟨q1, _⟩ | ⟨b', C', cur, ds, q1, q2, q3, q4, q5, q6⟩
 ·rw [q1] at h2; cases h2
 ·obtain ⟨d1, dm, d3, r1, r2, r3, r4, r5⟩ := VCs_get bx.es _ ds k bx.l e q5 (get_rep _ (lt_of_get he)) he
  rw [len_take_rep _ _ _ (Nat.le_of_lt (lt_of_get he))] at r2
  obtain ⟨c1, c2, c3, s1, s2, s3, s4, s5⟩ := VC_at p e bx.l dm o l' e0 r4 r3 hp
  subst s1
  have hnew := s5 v e' (a.eval y).cells.toList hput hvc (by rw [hvl, hlen])
  obtain ⟨w', hrun, hr'⟩ := hr.store (P := P) (e' := e') (d1 := d1) (d3 := d3) (c3 := c3) (new := (a.eval y).cells.toList) hL q1 q2 q3 q4 q5 q6 (by rw [hvl, hlen, s3]) s2 r1 r2
   (r5 e' _ hnew (by simp only [List.length_append] at r3 ⊢; omega)) (fun u hu => VC_scalar v _ hvc u hu)
  rw [q1] at h2
  injection h2 with h2; injection h2 with h2; injection h2 with h2 _
  subst h2
  have hrunop : (execOp a.eval ⟨dst, .store t x y, ty, pos, after, none⟩).run P w = .ok .skip w' := by
   simp only [execOp, h4, Instr.storeAt, Instr.sureAddr, Sem.run_bind, Sem.run_pure, Result.andThen, storeVar_run hs (by rw [hvl, hlen])]
   rw [hrun]
  unfold Oper.wp
  rw [hrunop, Oper.upon_skip]
  exact hK _ _ _ _ _ _ (hr'.puto (dstOk_spec hd) (VR_any ..)) ⟨rfl, rfl⟩
theorem AL_store {ops : Array Oper} {rest : List Oper} {dst : Option Tmp} {ty : TypeId} {pos : String} {after : Array Edge} {t : TypeId} {x y : Operand} {l l' l'' : Lay} {i k o : Nat} {p : List Nat} {bx : Box} {e e0 e' v : V}
 (hx : ev f x = .ptr l i k p) (hy : ev f y = v) (hk : v.known = true) (hL : L[i]? = some (some bx)) (hbl : bx.l = l) (he : bx.es[k]? = some e)
 (hp : e.at? l p = some (o, l', e0)) (hq : l.at? p = some (o, l'')) (hlen : v.len? = l'.len) (hs : tySize P t = some l'.len) (hput : e.put? p v = some e') (hd : dstOk n dst = true)
 (h : AL P C n ops rest Q (updo f dst .any) (L.set i (some { bx with es := bx.es.set k e' }))) : AL P C n ops (⟨dst, .store t x y, ty, pos, after, none⟩ :: rest) Q f L := 
 AL_stepQ rfl (St_store hx hy hk hL hbl he hp hq hlen hs hput hd) (fun f' L' ⟨h1, h2⟩ => by subst h1; subst h2; exact h)
end
end Go.Eng
set_option linter.unusedVariables false
set_option linter.unusedSimpArgs false
namespace Go.Eng
theorem wrap_id {x : Int} (h0 : -9223372036854775808 ≤ x) (h1 : x ≤ 9223372036854775807) : IntKind.i64.wrap x = x := IntWalk.i64_in _ ⟨h0, h1⟩
def numb {A : Type} : Nat → List A → List (Nat × A)
 | _, [] => []
 | i, x :: r => (i, x) :: numb (i + 1) r
theorem foldl_put (off : Nat) : ∀ (vs : List Value) (k : Nat) (cells : Array Value), off + k + vs.length ≤ cells.size →
 ((vs.zipIdx k).foldl (fun (cs : Array Value) (q : Value × Nat) => cs.setIfInBounds (off + q.2) q.1) cells).toList = cells.toList.take (off + k) ++ vs ++ cells.toList.drop (off + k + vs.length)
 | [], k, cells, h => by simp
 | v :: vs, k, cells, h => by
   simp only [List.zipIdx_cons, List.foldl_cons]
   rw [foldl_put off vs (k + 1) _ (by simp at h ⊢; omega)]
   have hk : off + k < cells.size := by simp at h; omega
   apply List.ext_getElem?
   intro j
   have h1 : off + (k + 1) + vs.length ≤ (cells.setIfInBounds (off + k) v).toList.length := by simp at h ⊢; omega
   have h2 : off + k + (v :: vs).length ≤ cells.toList.length := by simpa using h
   rw [getElem?_splice _ _ _ h1, getElem?_splice _ _ _ h2]
   simp only [List.length_cons, Array.toList_setIfInBounds, List.getElem?_set]
   by_cases e : j = off + k
   ·subst e
    rw [if_neg (by omega), if_pos rfl, if_pos (by simpa using hk), if_pos (by omega)]
    simp
   ·by_cases e2 : off + (k + 1) ≤ j ∧ j < off + (k + 1) + vs.length
    ·rw [if_pos e2, if_pos (by omega)]
     rw [show j - (off + k) = (j - (off + (k + 1))) + 1 by omega]
     simp
    ·rw [if_neg e2, if_neg (fun h => e h.symm), if_neg (by omega)]
theorem fill_seq (size : Nat) : ∀ (xs : List Value) (i : Nat) (cells : Array Value), (∀ x ∈ xs, x.cells.size = size) → cells.size = (i + xs.length) * size →
 Instr.fill (fun i => some (i * size, size)) cells (numb i xs) = some ((cells.toList.take (i * size)) ++ (xs.map (·.cells.toList)).flatten).toArray
 | [], i, cells, h, hs => by
   simp only [numb, Instr.fill, List.map_nil, List.flatten_nil, List.append_nil]
   rw [List.take_of_length_le (by simpa using Nat.le_of_eq hs)]
 | x :: xs, i, cells, h, hs => by
   have hx : x.cells.size = size := h x (by simp)
   have hs' : cells.size = i * size + (size + xs.length * size) := by
    rw [hs, List.length_cons, Nat.add_mul, Nat.add_mul, Nat.one_mul]; omega
   simp only [numb, Instr.fill]
   rw [if_neg (by simp [hx, hs'] <;> omega)]
   have hf : (x.cells.zipIdx.foldl (fun (cs : Array Value) (q : Value × Nat) => cs.setIfInBounds (i * size + q.2) q.1) cells).toList = cells.toList.take (i * size) ++ x.cells.toList ++ cells.toList.drop (i * size + size) := by
    have := foldl_put (i * size) x.cells.toList 0 cells (by simp [hx]; omega)
    rw [← Array.foldl_toList, Array.toList_zipIdx]
    simpa [hx] using this
   have hlen : (x.cells.zipIdx.foldl (fun (cs : Array Value) (q : Value × Nat) => cs.setIfInBounds (i * size + q.2) q.1) cells).size = (i + 1 + xs.length) * size := by
    rw [← Array.length_toList, hf]
    simp [hx, hs']
    rw [Nat.add_mul, Nat.add_mul, Nat.one_mul]
    omega
   have := fill_seq size xs (i + 1) (x.cells.zipIdx.foldl (fun (cs : Array Value) (q : Value × Nat) => cs.setIfInBounds (i * size + q.2) q.1) cells) (fun y hy => h y (by simp [hy])) hlen
   refine Eq.trans this ?_
   rw [hf, List.take_append_of_le_length (by simp [hx, hs', Nat.add_mul] <;> omega), List.take_of_length_le (by simp [hx, hs', Nat.add_mul] <;> omega)]
   simp
theorem VCs_flat {β : Beta} {S : Nat → Prop} {w : World} {l : Lay} : ∀ (vs : List V) (xs : List Value), All2 (fun v x => VC β S w v x.cells.toList ∧ x.cells.toList.length = l.len) vs xs →
 VCs β S w (List.replicate vs.length l) vs (xs.map (·.cells.toList)).flatten
 | _, _, .nil => by simp [VCs]
 | _, _, .cons h1 h2 => by
   simp only [List.length_cons, List.replicate_succ, List.map_cons, List.flatten_cons, VCs]
   exact ⟨_, _, _, _, rfl, rfl, h1.2, h1.1, VCs_flat _ _ h2⟩
theorem getElem?_rep_flat {A : Type} (zs : List A) : ∀ (k j : Nat), j < k * zs.length → (List.replicate k zs).flatten[j]? = zs[j % zs.length]?
 | 0, j, h => by simp at h
 | k + 1, j, h => by
   simp only [List.replicate_succ, List.flatten_cons]
   by_cases hj : j < zs.length
   ·rw [List.getElem?_append_left hj, Nat.mod_eq_of_lt hj]
   ·rw [List.getElem?_append_right (by omega), getElem?_rep_flat zs k _ (by rw [Nat.add_mul, Nat.one_mul] at h; omega)]
    rw [Nat.mod_eq_sub_mod (a := j) (by omega)]
theorem VCs_rep {β : Beta} {S : Nat → Prop} {w : World} {l : Lay} {zv : V} {zs : List Value} (h : VC β S w zv zs) (hl : zs.length = l.len) : ∀ k, VCs β S w (List.replicate k l) (List.replicate k zv) (List.replicate k zs).flatten
 | 0 => by simp [VCs]
 | k + 1 => by
   simp only [List.replicate_succ, List.flatten_cons, VCs]
   exact ⟨_, _, _, _, rfl, rfl, hl, h, VCs_rep h hl k⟩
section
variable {P : Program} {C : Cx} {n : Nat} {f : Fr} {L : Hp} {Q : AQ} {ops : Array Oper} {qt : List Nat} {rest : List Oper} {dst : Option Tmp} {ty : TypeId} {pos : String} {after : Array Edge}
theorem parts_run (a : Act) : ∀ (ps : List (Nat × Operand)) (i : Nat) (vs : List V), ps.map (fun q => (q.1, ev f q.2)) = numb i vs → ∀ w β S, Rel C n f L a w β S → ∃ xs, ps.map (fun q => (q.1, a.eval q.2)) = numb i xs ∧ All2 (VR β S w) vs xs ∧ xs.length = vs.length
 | [], i, vs, h, w, β, S, hr => by
   cases vs with
   | nil => exact ⟨[], rfl, .nil, rfl⟩
   | cons v r => simp [numb] at h
 | q :: ps, i, vs, h, w, β, S, hr => by
   cases vs with
   | nil => simp [numb] at h
   | cons v r =>
     simp only [List.map_cons, numb, List.cons.injEq, Prod.mk.injEq] at h
     obtain ⟨⟨h1, h2⟩, h3⟩ := h
     obtain ⟨xs, e1, e2, e3⟩ := parts_run a ps (i + 1) r h3 w β S hr
     refine ⟨a.eval q.2 :: xs, by simp [numb, e1, h1], .cons ?_ e2, by simp [e3]⟩
     have := rel_ev hr q.2
     rwa [h2] at this
def goodV (k : Nat) (v : V) : Bool := v.known && Nat.beq v.len? k
theorem goodV_spec {k : Nat} {v : V} (h : goodV k v = true) : v.known = true ∧ v.len? = k := by
 simp only [goodV, Bool.and_eq_true] at h
 exact ⟨h.1, Nat.eq_of_beq_eq_true h.2⟩
def goodVs (k : Nat) : List V → Bool
 | [] => true
 | v :: r => goodV k v && goodVs k r
theorem good_all {β : Beta} {S : Nat → Prop} {w : World} {k : Nat} {vs : List V} {xs : List Value} (h : All2 (VR β S w) vs xs) (hg : goodVs k vs = true) : All2 (fun v x => VC β S w v x.cells.toList ∧ x.cells.toList.length = k) vs xs := by
 induction h with
 | nil => exact .nil
 | cons h1 _ ih =>
   simp only [goodVs, Bool.and_eq_true] at hg
   obtain ⟨g1, g2⟩ := goodV_spec hg.1
   have := known_cells h1 g1
   exact .cons ⟨this.1, by rw [this.2, g2]⟩ (ih hg.2)
theorem AL_buildSlice {t e : TypeId} {len : Nat} {parts : Array (Nat × Operand)} {z : Value} (l : Lay) {vs : List V} (ht : tyElem P t = some e) (hs : tySize P e = some l.len) (hz : tyZero P e = some (some z)) (hp : parts.toList.map (fun q => (q.1, ev f q.2)) = numb 0 vs)
 (hlen : vs.length = len) (hsmall : len * l.len ≤ 16777216) (hpos : 0 < l.len) (hg : goodVs l.len vs = true) (m : Nat) (hm : L.length = m) (hd : dstOk n dst = true)
 (h : AL P C n ops rest Q (updo f dst (.ref l m 0 len)) (L ++ [some ⟨e, l, vs⟩])) : AL P C n ops (⟨dst, .buildSlice t len parts, ty, pos, after, none⟩ :: rest) Q f L := by
 subst hm
 subst hlen
 refine AL_stepQ (Z := fun f' L' => f' = updo f dst (.ref l L.length 0 vs.length) ∧ L' = L ++ [some ⟨e, l, vs⟩]) rfl ?_ (fun f' L' ⟨h1, h2⟩ => by subst h1; subst h2; exact h)
 intro a w β S hr K Qc hK
 obtain ⟨xs, e1, e2, e3⟩ := parts_run a parts.toList 0 vs hp w β S hr
 have hall := good_all e2 hg
 have hxs : ∀ x ∈ xs, x.cells.size = l.len := by
  clear e1 e3
  intro x hx
  have key : ∀ (vs : List V) (xs : List Value), All2 (fun v x => VC β S w v x.cells.toList ∧ x.cells.toList.length = l.len) vs xs → ∀ x ∈ xs, x.cells.size = l.len := by
   intro vs xs h
   induction h with
   | nil => simp
   | cons h1 _ ih =>
     intro x hx
     rcases List.mem_cons.1 hx with rfl | hx
     ·simpa using h1.2
     ·exact ih x hx
  exact key vs xs hall x hx
 have hpl : (parts.map fun q => (q.1, a.eval q.2)).toList = numb 0 xs := by rw [Array.toList_map]; exact e1
 have hfl : ((xs.map (·.cells.toList)).flatten).length = vs.length * l.len := by
  have := (VCs_len _ _ _ (VCs_flat vs xs hall)).1
  rwa [lens_replicate] at this
 have hcells : ∀ zc : Array Value, Instr.fill (fun i => some (i * l.len, l.len)) ((Array.range (vs.length * l.len)).map (zc[· % zc.size]!)) (numb 0 xs) = some ((xs.map (·.cells.toList)).flatten).toArray := by
  intro zc
  rw [fill_seq l.len xs 0 _ hxs (by simp [e3])]
  simp
 have hrun : (execOp a.eval ⟨dst, .buildSlice t vs.length parts, ty, pos, after, none⟩).run P w = .ok (.value (.slice (some ⟨w.heap.size, 0, none⟩) vs.length vs.length)) (w.alloc (.cells ((xs.map (·.cells.toList)).flatten).toArray e)) := by
  have hns : ¬ (vs.length * l.len > 2 ^ 24) := by omega
  simp only [execOp, Instr.buildSlice, Sem.run_bind, run_underlying (elem_some ht), Result.andThen, run_sizeOf' hs, if_neg hns]
  by_cases h0 : vs.length * l.len = 0
  ·simp only [if_pos h0, Sem.run_bind, Sem.run_pure, Result.andThen, hpl]
   rw [hcells]
   simp [run_newRow, Result.andThen]
  ·simp only [if_neg h0, Sem.run_bind, zeroValue_run hz, Sem.run_pure, Result.andThen, hpl]
   rw [hcells]
   simp [run_newRow, Result.andThen]
 unfold Oper.wp
 rw [hrun, Oper.upon_value]
 have hlv : vs.length ≤ 16777216 := Nat.le_trans (Nat.le_mul_of_pos_right _ hpos) hsmall
 have hn : NewBox β S w ((xs.map (·.cells.toList)).flatten).toArray vs.length ⟨e, l, vs⟩ := ⟨by simpa using hfl, Nat.le_refl _, by simp only [maxLen]; omega, by simp only [lim]; omega, _, VCs_flat vs xs hall, fun j x hx => by simpa using hx⟩
 have hr' := hr.new (w' := w.alloc (.cells ((xs.map (·.cells.toList)).flatten).toArray e)) hn rfl rfl rfl rfl rfl
 refine hK _ _ _ _ _ _ (hr'.puto (dstOk_spec hd) (VR_ref_mk (.inr ⟨w.heap.size, vs.length, setβ_self _ _ _, ?_, by omega⟩))) ⟨rfl, rfl⟩
 simp
theorem AL_makeSlice {t e : TypeId} {x : Operand} {bytes k : Nat} {kd : IntKind} (l : Lay) {zv : V} (ht : tyElem P t = some e) (hs : tySize P e = some l.len) (hz : ZeroOf P e l zv) (hb : tyBytes P e = some bytes) (hx : ev f x = .d (.c (.int kd k)))
 (hk : k ≤ lim) (hbk : k * bytes ≤ 281474976710656) (hpos : 0 < l.len) (m : Nat) (hm : L.length = m) (hd : dstOk n dst = true)
 (h : AL P C n ops rest Q (updo f dst (.ref l m 0 k)) (L ++ [some ⟨e, l, List.replicate k zv⟩])) : AL P C n ops (⟨dst, .makeSlice t x x, ty, pos, after, none⟩ :: rest) Q f L := by
 subst hm
 refine AL_stepQ (Z := fun f' L' => f' = updo f dst (.ref l L.length 0 k) ∧ L' = L ++ [some ⟨e, l, List.replicate k zv⟩]) rfl ?_ (fun f' L' ⟨h1, h2⟩ => by subst h1; subst h2; exact h)
 intro a w β S hr K Qc hK
 obtain ⟨z, hz, hsz, hvc⟩ := hz
 have hv := eval_c hr hx
 obtain ⟨i, hi, hby⟩ := Option.map_eq_some_iff.1 hb
 have hw : IntKind.i64.wrap (k : Int) = k := wrap_id (by omega) (by have : k ≤ 1099511627776 := hk; omega)
 have hcur : ∀ (zc : Array Value), zc = z.cells → ((Array.range (k * l.len)).map (zc[· % zc.size]!)).toList = (List.replicate k z.cells.toList).flatten := by
  rintro zc rfl
  apply List.ext_getElem?
  intro j
  simp only [Array.toList_map, Array.toList_range, List.getElem?_map, List.getElem?_range]
  by_cases hj : j < k * l.len
  ·rw [getElem?_rep_flat _ _ _ (by simpa [hsz] using hj)]
   have hlt : j % z.cells.size < z.cells.size := Nat.mod_lt _ (by omega)
   simp [hj, hlt, Array.getElem!_eq_getD, Array.getD]
  ·rw [List.getElem?_eq_none (by simpa using hj), List.getElem?_eq_none]
   ·rfl
   ·have := (VCs_len _ _ _ (VCs_rep (hvc β S w) (l := l) (by simpa using hsz) k)).1
    rw [lens_replicate] at this
    omega
 have hrun : ∃ cur : Array Value, cur.toList = (List.replicate k z.cells.toList).flatten ∧ (execOp a.eval ⟨dst, .makeSlice t x x, ty, pos, after, none⟩).run P w = .ok (.value (.slice (some ⟨w.heap.size, 0, none⟩) k k)) (w.alloc (.cells cur e)) := by
  have hti : (typeInfo e).run P w = .ok i w := by simp [typeInfo, hi, Result.andThen]
  have hlarge : (decide ((k : Int) < 0) || decide (((i.bytes : Int) * k) > 2 ^ 48)) = false := by
   have h2 : i.bytes * k ≤ 281474976710656 := by rw [hby, Nat.mul_comm]; exact hbk
   have h3 : ((i.bytes : Int) * (k : Int)) ≤ 281474976710656 := by
    have h4 := Int.ofNat_le.2 h2
    rw [Int.natCast_mul] at h4
    exact h4
   rw [Bool.or_eq_false_iff]
   exact ⟨decide_eq_false (by omega), decide_eq_false (by omega)⟩
  have har : ∀ q, (askRoom q).run P w = .ok () w := fun q => by unfold askRoom; split <;> rfl
  by_cases h0 : k * l.len = 0
  ·have hk0 : k = 0 := by
    rcases Nat.mul_eq_zero.1 h0 with h | h
    ·exact h
    ·omega
   subst hk0
   refine ⟨#[], rfl, ?_⟩
   simp only [execOp, hv, Instr.makeSlice, Sem.run_bind, run_underlying (elem_some ht), Result.andThen, asInt, asIntOf, Sem.run_pure, hti, hw, hlarge, har, run_sizeOf' hs]
   simp [har, run_sizeOf' hs, run_newRow, Result.andThen, Array.range_zero']
  ·refine ⟨_, hcur z.cells rfl, ?_⟩
   have hne : ¬ ((k : Int) < 0) := by omega
   simp only [execOp, hv, Instr.makeSlice, Sem.run_bind, run_underlying (elem_some ht), Result.andThen, asInt, asIntOf, Sem.run_pure, hti, hw, hlarge, har, run_sizeOf' hs, Int.toNat_natCast]
   simp only [Bool.false_eq_true, false_or, hne, or_false, if_false, gt_iff_lt, Int.lt_irrefl, Sem.run_bind, Sem.run_pure, har, run_sizeOf' hs, Result.andThen, h0, zeroValue_run hz, run_newRow, decide_false]
   simp [har, run_sizeOf' hs, Result.andThen, h0, zeroValue_run hz, run_newRow, hne]
 obtain ⟨cur, hc, hrun⟩ := hrun
 unfold Oper.wp
 rw [hrun, Oper.upon_value]
 have hrep := VCs_rep (hvc β S w) (l := l) (by simpa using hsz) k
 have hn : NewBox β S w cur k ⟨e, l, List.replicate k zv⟩ := ⟨by
  have := (VCs_len _ _ _ hrep).1
  rw [lens_replicate] at this
  rw [← Array.length_toList, hc]
  simpa using this, by simp, by have : k ≤ 1099511627776 := hk; simp only [maxLen]; omega, by simpa using hk, _, by simpa using hrep, fun j x hx => by rw [← hc] at hx; simpa using hx⟩
 have hr' := hr.new (w' := w.alloc (.cells cur e)) hn rfl rfl rfl rfl rfl
 refine hK _ _ _ _ _ _ (hr'.puto (dstOk_spec hd) (VR_ref_mk (.inr ⟨w.heap.size, k, setβ_self _ _ _, ?_, by omega⟩))) ⟨rfl, rfl⟩
 simp
end
end Go.Eng
set_option linter.unusedVariables false
set_option linter.unusedSimpArgs false
namespace Go.Eng
section
variable {P : Program} {C : Cx} {n : Nat} {f : Fr} {L : Hp} {Q : AQ} {ops : Array Oper} {qt : List Nat} {rest : List Oper} {dst : Option Tmp} {ty : TypeId} {pos : String} {after : Array Edge}
theorem Rel.move {a : Act} {w w' : World} {β : Beta} {S : Nat → Prop} (h : Rel C n f L a w β S) {i : Nat} {bx bx' : Box} {r : Option Nat} {o : Option (Nat × Nat)} (hL : L[i]? = some (some bx)) (hg : w.grownBy w' r)
 (hr : ∀ b, r = some b → ∃ c, β i = some (some (b, c))) (ho : ∀ b c, o = some (b, c) → (∃ c', β i = some (some (b, c'))) ∨ (b = w.heap.size ∧ b < w'.heap.size))
 (hbx : ∀ β', Later β S w β' S w' → β' L.length = some o → BoxR β' S w' L.length bx') (hna : bx'.ty.ad = none) : Rel C n f (L.set i none ++ [some bx']) a w' (setβ β L.length o) S := by
 have hi : i < L.length := lt_of_get hL
 have old : ∀ b, b < w.heap.size → (∀ c, β i ≠ some (some (b, c))) → w'.heap[b]? = w.heap[b]? := fun b hb hne => hg.block b hb (fun e => by
  obtain ⟨c, hc⟩ := hr b e.symm
  exact hne c hc)
 have lat : Later β S w (setβ β L.length o) S w' := later_new (h.hp.un _ (Nat.le_refl _)) fun b hb => old b (h.hp.fz b hb) fun c hc => h.hp.own i bx b c hL hc hb
 have cases_ : ∀ j b, (L.set i none ++ [some bx'])[j]? = some (some b) → (j < L.length ∧ j ≠ i ∧ L[j]? = some (some b)) ∨ (j = L.length ∧ bx' = b) := fun j b hj => by
  rcases get_snoc _ _ _ _ hj with ⟨h1, h2⟩ | ⟨h1, h2⟩
  ·rw [List.getElem?_set] at h2
   by_cases e : i = j
   ·subst e
    rw [if_pos rfl, if_pos hi] at h2
    cases h2
   ·rw [if_neg e] at h2
    exact .inl ⟨by simpa using h1, fun h => e h.symm, h2⟩
  ·exact .inr ⟨by simpa using h1, by injection h2⟩
 have newb : ∀ b c, o = some (b, c) → ∀ j, j < L.length → j ≠ i → ∀ bj cj, L[j]? = some (some bj) → β j ≠ some (some (b, cj)) := fun b c hob j hj hne bj cj hLj hbj => by
  rcases ho b c hob with ⟨c', hc'⟩ | ⟨hb, _⟩
  ·exact hne (h.hp.inj j i b bj bx cj c' hLj hL hbj hc')
  ·have := (h.hp.bx j bj hLj).lt hbj
   omega
 refine h.later lat ⟨?_, ?_, ?_, ?_, ?_, ?_⟩ ?_ h.fz ?_
 ·intro j b hj
  rcases cases_ j b hj with ⟨h1, h2, h3⟩ | ⟨rfl, rfl⟩
  ·exact BoxR_later lat (fun b' c hb => old b' ((h.hp.bx j b h3).lt hb) fun c' hc' => h2 (h.hp.inj j i b' b bx c c' h3 hL hb hc')) (h.hp.bx j b h3)
  ·exact hbx _ lat (setβ_self _ _ _)
 ·intro j j' b b1 b2 c c' hj hj' hbj hbj'
  rcases cases_ j _ hj with ⟨h1, h2, h3⟩ | ⟨rfl, _⟩ <;> rcases cases_ j' _ hj' with ⟨k1, k2, k3⟩ | ⟨rfl, _⟩
  ·rw [setβ_ne _ _ (by omega)] at hbj hbj'
   exact h.hp.inj j j' b b1 b2 c c' h3 k3 hbj hbj'
  ·rw [setβ_ne _ _ (by omega)] at hbj
   rw [setβ_self] at hbj'
   injection hbj' with hbj'
   exact absurd hbj (newb b c' hbj' j h1 h2 _ _ h3)
  ·rw [setβ_ne _ _ (by omega)] at hbj'
   rw [setβ_self] at hbj
   injection hbj with hbj
   exact absurd hbj' (newb b c hbj j' k1 k2 _ _ k3)
  ·rfl
 ·intro j b1 b c hj hbj hs
  rcases cases_ j _ hj with ⟨h1, h2, h3⟩ | ⟨rfl, _⟩
  ·rw [setβ_ne _ _ (by omega)] at hbj
   exact h.hp.own j b1 b c h3 hbj hs
  ·rw [setβ_self] at hbj
   injection hbj with hbj
   rcases ho b c hbj with ⟨c', hc'⟩ | ⟨hb, _⟩
   ·exact h.hp.own i bx b c' hL hc' hs
   ·have := h.hp.fz b hs
    omega
 ·intro b hb
  have := h.hp.fz b hb
  have := hg.size
  omega
 ·intro j hj
  simp at hj
  rw [setβ_ne _ _ (by omega)]
  exact h.hp.un j (by omega)
 ·intro j b1 q hj hq
  rcases cases_ j _ hj with ⟨h1, h2, h3⟩ | ⟨rfl, rfl⟩
  ·rw [setβ_ne _ _ (by omega)]
   exact h.hp.ad j b1 q h3 hq
  ·rw [hna] at hq; cases hq
 ·intro j b1 b c hj hbj
  rcases cases_ j _ hj with ⟨h1, h2, h3⟩ | ⟨rfl, _⟩
  ·rw [setβ_ne _ _ (by omega)] at hbj
   exact h.own j b1 b c h3 hbj
  ·rw [setβ_self] at hbj
   injection hbj with hbj
   rcases ho b c hbj with ⟨c', hc'⟩ | ⟨hb, _⟩
   ·exact h.own i bx b c' hL hc'
   ·have := h.pres.size
    exact .inr (by omega)
 ·refine ⟨hg.os.trans h.pres.os, hg.tape.trans h.pres.tape, hg.output.trans h.pres.output, by have := h.pres.size; have := hg.size; omega, fun b hb hd => ?_⟩
  have hsz := h.pres.size
  refine (old b (by omega) fun c hc => ?_).trans (h.pres.block b hb hd)
  rcases h.own i bx b c hL hc with h1 | h1
  ·exact hd h1
  ·omega
def Src (C : Cx) (n : Nat) (f : Fr) (L : Hp) (y : Operand) (l : Lay) (ys : List V) : Prop :=
 ∀ a w β S, Rel C n f L a w β S → ∃ A c news, a.eval y = .slice A ys.length c ∧ VCs β S w (List.replicate ys.length l) ys news ∧ (ys.length = 0 ∨ ∃ b o, A = some ⟨b, o, none⟩ ∧ cellsAt w b o news)
theorem Src_sl {y : Operand} {l : Lay} {xs : List D} (hy : ev f y = .d (.sl l xs)) : Src C n f L y l (xs.map V.d) := by
 intro a w β S hr
 have hv := rel_ev hr y
 rw [hy] at hv
 obtain ⟨A, cap, h1, h2, h3, h4⟩ := VR_sl hv
 simp only [List.length_map]
 rcases h4 with h4 | ⟨b, off, ds, rfl, hb, hd, hc⟩
 ·have : xs = [] := List.eq_nil_of_length_eq_zero h4
  subst this
  exact ⟨A, cap, [], h1, by simp [VCs], .inl rfl⟩
 ·exact ⟨_, cap, ds, h1, (VCs_d xs _ ds).2 hd, .inr ⟨b, off, rfl, hc⟩⟩
theorem append_arg_run {a : Act} {w : World} {x y : Operand} {t : TypeId} {dst : Option Tmp} {ty : TypeId} {pos : String} {after : Array Edge} {v : Value} {w' : World} (h : (Builtin.append_ #[t, t] ty #[a.eval x, a.eval y]).run P w = .ok v w') :
 (execOp a.eval ⟨dst, callB .append #[x, y] #[t, t], ty, pos, after, none⟩).run P w = .ok (.value v) w' := by
 simp only [execOp, resolve, invoke, builtin, Sem.run_bind, Sem.run_pure, Result.andThen]
 simp [h, Result.andThen]
theorem St_append {t e : TypeId} {x y : Operand} {l : Lay} {i m bytes : Nat} {bx : Box} {ys : List V} {z : Value} (hx : ev f x = .ref l i 0 m) (hL : L[i]? = some (some bx)) (hl : bx.l = l) (ht : tyElem P t = some e) (hs : tySize P e = some l.len) (hz : tyZero P e = some (some z)) (hzl : z.cells.size = l.len) (hb : tyBytes P e = some bytes) (hb128 : bytes ≤ 128)
 (hpos : 0 < l.len) (he : bx.ty = e) (hm : bx.es.length = m) (src : Src C n f L y l ys) (hlim : m + ys.length ≤ lim) (q : Nat) (hq : L.length = q) (hd : dstOk n dst = true) :
 StQ P C n ⟨dst, callB .append #[x, y] #[t, t], ty, pos, after, none⟩ f L (fun f' L' => f' = updo f dst (.ref l q 0 (m + ys.length)) ∧ L' = L.set i none ++ [some ⟨e, l, bx.es ++ ys⟩]) := by
 subst hq
 intro a w β S hr K Qc hK
 have hv := rel_ev hr x
 rw [hx] at hv
 obtain ⟨A, c, news, hy1, hy2, hy3⟩ := src a w β S hr
 subst hl; replace he : bx.ty.t = e := congrArg BT.t he
 subst he
 obtain ⟨info, hi, hby⟩ := Option.map_eq_some_iff.1 hb
 obtain ⟨info', hi', hzz⟩ := Option.map_eq_some_iff.1 hz
 rw [hi] at hi'
 injection hi' with hi'
 subst hi'
 have hsz : info.size = bx.l.len := by
  obtain ⟨i2, hi2, h2⟩ := Option.map_eq_some_iff.1 hs
  rw [hi] at hi2
  injection hi2 with hi2
  subst hi2
  exact h2
 have hnl : news.length = ys.length * bx.l.len := by
  have := (VCs_len _ _ _ hy2).1
  rwa [lens_replicate] at this
 have hlim' : m + ys.length ≤ 1099511627776 := hlim
 -- what both arms hand on
 have app : ∀ (β' : Beta) (w' : World) (ds : List Value), Later β S w β' S w' → VCs β S w (List.replicate bx.es.length bx.l) bx.es ds → VCs β' S w' (List.replicate (bx.es ++ ys).length bx.l) (bx.es ++ ys) (ds ++ news) := by
  intro β' w' ds lat hds
  have key : ∀ (es : List V) (ds : List Value), VCs β S w (List.replicate es.length bx.l) es ds → VCs β S w (List.replicate (es ++ ys).length bx.l) (es ++ ys) (ds ++ news) := by
   intro es
   induction es with
   | nil => intro ds hds; simp only [List.length_nil, List.replicate_zero, VCs] at hds; obtain ⟨_, rfl⟩ := hds; simpa using hy2
   | cons v es ih =>
     intro ds hds
     simp only [List.length_cons, List.replicate_succ, VCs] at hds
     obtain ⟨f0, fr, c1, c2, e0, rfl, h3, h4, h5⟩ := hds
     injection e0 with e1 e2
     subst e1; subst e2
     simp only [List.cons_append, List.length_cons, List.replicate_succ, VCs]
     exact ⟨_, _, c1, c2 ++ news, rfl, by simp, h3, h4, ih c2 h5⟩
  exact VCs_later lat _ _ _ (key _ _ hds)
 by_cases h0 : ys.length = 0
 ·-- nothing is appended
  have hys : ys = [] := List.eq_nil_of_length_eq_zero h0
  subst hys
  have hxv : ∃ bo cap, a.eval x = .slice bo m cap ∧ m ≤ cap := by
   rcases VR_ref hv with ⟨_, k2, _, k3⟩ | ⟨b, Cp, _, k2, hle⟩
   ·exact ⟨none, 0, by rw [k2, k3], by omega⟩
   ·exact ⟨_, _, k2, by omega⟩
  obtain ⟨bo, cap, hxv, hcap⟩ := hxv
  have hrun : (Builtin.append_ #[t, t] ty #[a.eval x, a.eval y]).run P w = .ok (a.eval x) w := by
   have hfc : (Builtin.firstCells info.size 0 (.slice A 0 c)).run P w = .ok #[] w := by
    cases A <;> simp [Builtin.firstCells, loadCells, loadCellsFrom]
   rw [hxv, hy1]
   cases bo <;> simp [Builtin.append_, run_underlying (elem_some ht), sizeOf, typeInfo, hi, Builtin.lenOf, hcap, hfc, storeCells, Result.andThen]
  unfold Oper.wp
  rw [append_arg_run hrun, Oper.upon_value]
  obtain ⟨hli, hbr⟩ := hr.hp.bx i bx hL
  have hgr : w.grownBy w none := ⟨rfl, rfl, rfl, Nat.le_refl _, fun _ _ _ => rfl⟩
  simp only [List.append_nil, List.length_nil, Nat.add_zero] at hK ⊢
  rcases VR_ref hv with ⟨k1, k2, _, k3⟩ | ⟨b, Cp, k1, k2, k3⟩
  ·have hr' := hr.move (hna := rfl) (bx' := ⟨bx.ty.t, bx.l, bx.es⟩) (r := none) (o := none) hL hgr (fun b hb => by cases hb) (fun b c hb => by cases hb) (fun β' lat hβ => by
    rcases hbr with ⟨q1, q2⟩ | ⟨b', C', cur, ds, q1, _⟩
    ·exact ⟨hli, .inl ⟨hβ, q2⟩⟩
    ·rw [k1] at q1; cases q1)
   exact hK _ _ _ _ _ _ (hr'.puto (dstOk_spec hd) (VR_ref_mk (.inl ⟨setβ_self _ _ _, k2, rfl, k3⟩))) ⟨rfl, rfl⟩
  ·have hr' := hr.move (hna := rfl) (bx' := ⟨bx.ty.t, bx.l, bx.es⟩) (r := none) (o := some (b, Cp)) hL hgr (fun b hb => by cases hb) (fun b' c hb => by injection hb with hb; injection hb with hb hb'; subst hb; exact .inl ⟨Cp, k1⟩) (fun β' lat hβ => by
    rcases hbr with ⟨q1, q2⟩ | ⟨b', C', cur, ds, q1, q2, q3, q4, q5, q6⟩
    ·rw [k1] at q1; cases q1
    ·rw [k1] at q1
     injection q1 with q1; injection q1 with q1; injection q1 with q1 q1'
     subst q1; subst q1'
     exact ⟨hli, .inr ⟨b, Cp, cur, ds, hβ, q2, q3, q4, VCs_later lat _ _ _ q5, q6⟩⟩)
   exact hK _ _ _ _ _ _ (hr'.puto (dstOk_spec hd) (VR_ref_mk (.inr ⟨b, Cp, setβ_self _ _ _, k2, k3⟩))) ⟨rfl, rfl⟩
 ·rcases hy3 with hy3 | ⟨b2, o2, rfl, hcells⟩
  ·exact absurd hy3 h0
  ·obtain ⟨hli, hbr⟩ := hr.hp.bx i bx hL
   -- the slice as the machine's law wants it
   have hown : ∃ ds, VCs β S w (List.replicate bx.es.length bx.l) bx.es ds ∧ w.ownsRow 0 bx.ty.t bx.l.len (a.eval x) m ds ∧ ∀ b, (a.eval x).ownBlock = some b → ∃ c, β i = some (some (b, c)) := by
    rcases VR_ref hv with ⟨k1, k2, _, k3⟩ | ⟨b, Cp, k1, k2, k3⟩
    ·rcases hbr with ⟨q1, q2⟩ | ⟨b', C', cur, ds, q1, _⟩
     ·refine ⟨[], by rw [q2]; simp [VCs], ⟨by simp [k3], .inl ⟨k2, k3⟩⟩, fun b hb => by rw [k2] at hb; cases hb⟩
     ·rw [k1] at q1; cases q1
    ·rcases hbr with ⟨q1, q2⟩ | ⟨b', C', cur, ds, q1, q2, q3, q4, q5, q6⟩
     ·rw [k1] at q1; cases q1
     ·rw [k1] at q1
      injection q1 with q1; injection q1 with q1; injection q1 with q1 q1'
      subst q1; subst q1'
      have hdl := (VCs_len _ _ _ q5).1
      rw [lens_replicate, hm] at hdl
      refine ⟨ds, q5, ⟨hdl, .inr ⟨b, Cp, cur, by rw [k2]; simp, Nat.zero_le _, q2, by omega, q4.2, q3, ?_⟩⟩, fun b' hb' => by rw [k2] at hb'; simp [Value.ownBlock] at hb'; subst hb'; exact ⟨Cp, k1⟩⟩
      apply List.ext_getElem?
      intro j
      by_cases hj : j < ds.length
      ·rw [List.getElem?_take_of_lt (by omega), List.getElem?_eq_getElem hj]
       have := q6 j ds[j] (List.getElem?_eq_getElem hj)
       simpa using this
      ·rw [List.getElem?_eq_none (by rw [List.length_take]; omega), List.getElem?_eq_none (by omega)]
   obtain ⟨ds, hds, hown, hblk⟩ := hown
   have hmul : (m + ys.length) * info.bytes ≤ 140737488355328 := by
    have h1 : (m + ys.length) * info.bytes ≤ 1099511627776 * 128 := Nat.mul_le_mul hlim' (by omega)
    omega
   obtain ⟨v', w', hrun, hown', hgrow, _, hat⟩ := run_append_own_at (P := P) w 0 t ty bx.ty.t info z bx.l.len info.bytes (elem_some ht) hi hzz hsz rfl hzl hpos (a.eval x) m ds hown ⟨b2, o2, none⟩ ys.length c news hnl
    (fun j u hu => by rw [Addr.add_lit]; exact hcells j u hu) (fun u hu => oneCell_of_scalar (VCs_scalar _ _ _ hy2 u hu)) (by simp only [maxLen]; omega) hmul (Nat.zero_le _)
   rw [← hy1] at hrun
   unfold Oper.wp
   rw [append_arg_run hrun, Oper.upon_value]
   rcases hown'.2 with ⟨_, hz0⟩ | ⟨g, cap, cur, hv', _, hg, hle, hcm, hcs, htk⟩
   ·omega
   ·have hrr : ∀ b, (a.eval x).ownBlock = some b → ∃ c, β i = some (some (b, c)) := hblk
    have hcase : (∃ c', β i = some (some (g, c'))) ∨ (g = w.heap.size ∧ g < w'.heap.size) := by
     rw [hv'] at hat
     simp only [Value.ownBlock] at hat
     rcases hat with hat | hat
     ·exact .inl (hblk g hat.symm)
     ·injection hat with hat
      exact .inr ⟨hat, (Array.getElem?_eq_some_iff.1 hg).1⟩
    have hr' := hr.move (hna := rfl) (bx' := ⟨bx.ty.t, bx.l, bx.es ++ ys⟩) (r := (a.eval x).ownBlock) (o := some (g, cap)) hL hgrow hrr (fun b c hb => by injection hb with hb; injection hb with hb hb'; subst hb; exact hcase) (fun β' lat hβ => by
     refine ⟨by simp only [List.length_append, hm]; exact hlim, .inr ⟨g, cap, cur, ds ++ news, hβ, hg, hcs, ⟨by simp only [List.length_append, hm]; exact hle, hcm⟩, app β' w' ds lat hds, fun j x hx => ?_⟩⟩
     have hj := lt_of_get hx
     have hl2 : (ds ++ news).length = (m + ys.length) * bx.l.len := hown'.1
     have h9 : (cur.toList.take ((m + ys.length) * bx.l.len))[j]? = some x := by rw [htk]; exact hx
     rw [List.getElem?_take_of_lt (by omega)] at h9
     simpa using h9)
    refine hK _ _ _ _ _ _ (hr'.puto (dstOk_spec hd) (VR_ref_mk (.inr ⟨g, cap, setβ_self _ _ _, ?_, by omega⟩))) ⟨rfl, rfl⟩
    rw [hv']
    simp
theorem AL_append {t e : TypeId} {x y : Operand} {l : Lay} {i m bytes : Nat} {bx : Box} {ys : List V} {z : Value} (hx : ev f x = .ref l i 0 m) (hL : L[i]? = some (some bx)) (hl : bx.l = l) (ht : tyElem P t = some e) (hs : tySize P e = some l.len) (hz : tyZero P e = some (some z)) (hzl : z.cells.size = l.len) (hb : tyBytes P e = some bytes) (hb128 : bytes ≤ 128)
 (hpos : 0 < l.len) (he : bx.ty = e) (hm : bx.es.length = m) (src : Src C n f L y l ys) (hlim : m + ys.length ≤ lim) (q : Nat) (hq : L.length = q) (hd : dstOk n dst = true)
 (h : AL P C n ops rest Q (updo f dst (.ref l q 0 (m + ys.length))) (L.set i none ++ [some ⟨e, l, bx.es ++ ys⟩])) : AL P C n ops (⟨dst, callB .append #[x, y] #[t, t], ty, pos, after, none⟩ :: rest) Q f L := 
 AL_stepQ rfl (St_append hx hL hl ht hs hz hzl hb hb128 hpos he hm src hlim q hq hd) (fun f' L' ⟨h1, h2⟩ => by subst h1; subst h2; exact h)
end
end Go.Eng
set_option linter.unusedVariables false
set_option linter.unusedSimpArgs false
namespace Go.Eng
mutual
inductive Reads (L : Hp) (F : Nat → Prop) : V → D → Prop
 | d {x : D} : Reads L F (.d x) x
 | nil {l : Lay} : Reads L F nilsl (.sl l [])
 | agg {fs : List Lay} {vs : List V} {ds : List D} : ReadsL L F vs ds → Reads L F (.agg fs vs) (.agg fs ds)
 | ref {l : Lay} {i m : Nat} {bx : Box} {ds : List D} : F i → L[i]? = some (some bx) → bx.l = l → bx.es.length = m → ReadsL L F bx.es ds → Reads L F (.ref l i 0 m) (.sl l ds)
 | ptr {l : Lay} {i k : Nat} {p : List Nat} {bx : Box} {e : V} {x : D} : F i → L[i]? = some (some bx) → bx.l = l → bx.es[k]? = some e → Reads L F e x → Reads L F (.ptr l i k p) (.rp l x p)
 | fn {k : FuncId} {vs : List V} {ds : List D} : ReadsL L F vs ds → Reads L F (.fn k vs) (.fn k ds)
inductive ReadsL (L : Hp) (F : Nat → Prop) : List V → List D → Prop
 | nil : ReadsL L F [] []
 | cons {v : V} {x : D} {vs : List V} {ds : List D} : Reads L F v x → ReadsL L F vs ds → ReadsL L F (v :: vs) (x :: ds)
end
theorem ReadsL_d {L : Hp} {F : Nat → Prop} : ∀ xs : List D, ReadsL L F (xs.map V.d) xs
 | [] => .nil
 | x :: xs => .cons .d (ReadsL_d xs)
theorem ReadsL_length {L : Hp} {F : Nat → Prop} : ∀ {vs : List V} {ds : List D}, ReadsL L F vs ds → vs.length = ds.length
 | _, _, .nil => rfl
 | _, _, .cons _ h => by simp [ReadsL_length h]
section
variable {β β' : Beta} {S S' : Nat → Prop} {w : World} {L : Hp} {F : Nat → Prop}
mutual
theorem Reads_sound (hp : HeapR β S w L) (su : ∀ b, S b → S' b) (hF : ∀ i bx b c, F i → L[i]? = some (some bx) → β i = some (some (b, c)) → S' b) :
 ∀ {v : V} {x : D}, Reads L F v x → ∀ cs, VC β S w v cs → DC S' w x cs
 | _, _, .d, cs, h => by
   simp only [VC] at h
   exact DC_later su (fun _ _ => rfl) _ cs h
 | _, _, .nil, cs, h => by
   simp only [VC, DC] at h ⊢
   exact ⟨none, 0, 0, h.1, rfl, Nat.le_refl _, Nat.zero_le _, .inl rfl⟩
 | _, _, .agg k, cs, h => by
   simp only [VC, DC] at h ⊢
   exact ReadsL_sound hp su hF k _ cs h
 | _, _, .ref (l := l) (i := i) (bx := bx) hf hL hl hm k, cs, h => by
   simp only [VC, DC] at h ⊢
   obtain ⟨hli, hbr⟩ := hp.bx i bx hL
   have hlen := ReadsL_length k
   subst hl; subst hm
   rcases h with ⟨h1, h2, h3, h4⟩ | ⟨b, Cp, h1, h2, h3⟩
   ·refine ⟨none, 0, 0, h2, by omega, Nat.le_refl _, Nat.zero_le _, .inl rfl⟩
   ·rcases hbr with ⟨q1, _⟩ | ⟨b', C', cur, dsv, q1, q2, q3, q4, q5, q6⟩
    ·rw [q1] at h1; cases h1
    ·rw [q1] at h1
     injection h1 with h1; injection h1 with h1; injection h1 with h1 h1'
     subst h1; subst h1'
     have hd := ReadsL_sound hp su hF k _ dsv q5
     refine ⟨_, _, _, h2, hlen, by omega, hli, .inr ⟨b', 0 * bx.l.len, dsv, rfl, hF i bx b' C' hf hL q1, by rw [← hlen]; exact hd, fun j x hx => ?_⟩⟩
     have := q6 j x hx
     simp [World.cell?, q2, this]
 | _, _, .ptr (l := l) (i := i) (k := kk) (bx := bx) hf hL hl he k, cs, h => by
   simp only [VC, DC] at h ⊢
   obtain ⟨b, Cp, o, l', h1, h2, h3⟩ := h
   subst hl
   obtain ⟨ec, e1, e2, e3⟩ := box_elem (hp.bx i bx hL) h1 he
   exact ⟨b, kk * bx.l.len, ec, o, l', h2, h3, hF i bx b Cp hf hL h1, e2, Reads_sound hp su hF k ec e1, e3⟩
 | _, _, .fn (vs := vs) (ds := ds) k, cs, h => by
   simp only [VC, DC] at h ⊢
   obtain ⟨xs, h1, h2⟩ := h
   refine ⟨xs, h1, ?_⟩
   rw [← ReadsL_length k]
   exact ReadsL_sound hp su hF k _ xs h2
theorem ReadsL_sound (hp : HeapR β S w L) (su : ∀ b, S b → S' b) (hF : ∀ i bx b c, F i → L[i]? = some (some bx) → β i = some (some (b, c)) → S' b) :
 ∀ {vs : List V} {ds : List D}, ReadsL L F vs ds → ∀ fs cs, VCs β S w fs vs cs → DCs S' w fs ds cs
 | _, _, .nil, fs, cs, h => by simpa only [VCs, DCs] using h
 | _, _, .cons k1 k2, fs, cs, h => by
   simp only [VCs, DCs] at h ⊢
   obtain ⟨f, fr, c1, c2, h1, h2, h3, h4, h5⟩ := h
   exact ⟨f, fr, c1, c2, h1, h2, h3, Reads_sound hp su hF k1 c1 h4, ReadsL_sound hp su hF k2 fr c2 h5⟩
end
theorem Reads_isAgg {v : V} {x : D} (h : Reads L F v x) : v.isAgg = x.isAgg := by cases h <;> rfl
end
def RD (S : Nat → Prop) (w : World) (d : D) (x : Value) : Prop := DC S w d x.cells.toList ∧ d.isAgg = isAggV x
theorem RD_of_VR0 {β : Beta} {S : Nat → Prop} {w : World} {d : D} {x : Value} (h : VR0 β S w (.d d) x) : RD S w d x := by
 rcases h with h | ⟨h, e⟩
 ·cases h
 ·simp only [VC] at h; exact ⟨h, e⟩
theorem VR0_of_RD {β : Beta} {S : Nat → Prop} {w : World} {d : D} {x : Value} (h : RD S w d x) : VR0 β S w (.d d) x := .inr ⟨by simp only [VC]; exact h.1, h.2⟩
def RetR (S : Nat → Prop) (w : World) (rs : List D) (x : Value) : Prop :=
 match rs with
 | [r] => RD S w r x
 | rs => ∃ xs : List Value, x = .tuple xs.toArray ∧ All2 (RD S w) rs xs
def retV : List D → V
 | [r] => .d r
 | rs => .tup (rs.map V.d)
def Tab (P : Program) (S : Nat → Prop) (w : World) : Prop := ∀ g, P.globalNamed "internal/strconv.uint64pow10" = some g → S g ∧ Lib.TabIs P w "internal/strconv.uint64pow10" .u64 Lib.pow10Tab
theorem Tab.mono {P : Program} {S S' : Nat → Prop} {w : World} (h : Tab P S w) (k : ∀ b, S b → S' b) : Tab P S' w := fun g hg => ⟨k g (h g hg).1, (h g hg).2⟩
theorem TabIs_lt {P : Program} {w : World} {nm : String} {k : IntKind} {zs : List Int} {g : Nat} (hg : P.globalNamed nm = some g) (h : Lib.TabIs P w nm k zs) : g < w.heap.size := by
 unfold Lib.TabIs World.var? at h
 rw [hg, Option.bind_some] at h
 by_cases hlt : g < w.heap.size
 ·exact hlt
 ·have : w.heap[g]? = none := by simp; omega
  rw [this] at h
  cases h
theorem TabIs_same {P : Program} {w w' : World} {nm : String} {k : IntKind} {zs : List Int} {g : Nat} (hg : P.globalNamed nm = some g) (h : Lib.TabIs P w nm k zs) (e : w'.heap[g]? = w.heap[g]?) : Lib.TabIs P w' nm k zs := by
 unfold Lib.TabIs World.var? at h ⊢
 rw [hg, Option.bind_some] at h ⊢
 rw [e]
 exact h
def PCall0 (P : Program) (k : FuncId) (ds : List D) (post : List D → Prop) : Prop :=
 ∀ (w : World) (S : Nat → Prop) (xs : List Value), (∀ b, S b → b < w.heap.size) → All2 (RD S w) ds xs →
  Calls P k xs.toArray w fun e w' => ∃ x rs S', e = .returned x ∧ post rs ∧ RetR S' w' rs x ∧ (∀ b, S b → S' b) ∧ (∀ b, S' b → b < w'.heap.size ∧ (S b ∨ w.heap.size ≤ b)) ∧ Pres (fun _ => False) w w'
def PCall (P : Program) (k : FuncId) (ds : List D) (post : List D → Prop) : Prop :=
 ∀ (w : World) (S : Nat → Prop) (xs : List Value), (∀ b, S b → b < w.heap.size) → Tab P S w → All2 (RD S w) ds xs →
  Calls P k xs.toArray w fun e w' => ∃ x rs S', e = .returned x ∧ post rs ∧ RetR S' w' rs x ∧ (∀ b, S b → S' b) ∧ (∀ b, S' b → b < w'.heap.size ∧ (S b ∨ w.heap.size ≤ b)) ∧ Pres (fun _ => False) w w'
theorem PCall.mono {P : Program} {k : FuncId} {ds : List D} {post post' : List D → Prop} (h : PCall P k ds post) (hp : ∀ rs, post rs → post' rs) : PCall P k ds post' := fun w S xs hS hT hd =>
 (h w S xs hS hT hd).mono fun e w' ⟨x, rs, S', h1, h2, h3⟩ => ⟨x, rs, S', h1, hp _ h2, h3⟩
theorem PCall0.to {P : Program} {k : FuncId} {ds : List D} {post : List D → Prop} (h : PCall0 P k ds post) : PCall P k ds post := fun w S xs hS _ hd => h w S xs hS hd
def Callable (P : Program) (k : FuncId) : Prop := ∀ args w, (callFunc k args).run P w = .ok (.enter k args) w
theorem Callable_of {P : Program} {k : FuncId} {fn : Func} (hf : P.funcs[k]? = some fn) (hb : fn.body.isNone = false) (hn : (fn.name == "runtime.NumGoroutine") = false) : Callable P k := by
 intro args w
 have hp : (program).run P w = .ok P w := rfl
 simp only [callFunc, Sem.run_bind, hp, Result.andThen, hf, hb, hn, Bool.false_eq_true, if_false, Sem.run_pure]
def frOf : List (Nat × V) → Fr
 | [] => fun _ => .any
 | (i, v) :: r => upd (frOf r) i v
def fr0 (ds : List D) : Fr := fun i => match ds[i]? with | some d => .d d | none => .any
section
variable {P : Program} {C : Cx} {n : Nat} {f : Fr} {L : Hp} {Q : AQ}
inductive RetV (P : Program) (f : Fr) (L : Hp) : List ResultVar → List V → Prop
 | nil : RetV P f L [] []
 | tmp {t : Tmp} {v : V} {rs : List ResultVar} {vs : List V} : f t = v → v.known = true → RetV P f L rs vs → RetV P f L (.tmp t :: rs) (v :: vs)
 | cell {t : Tmp} {ty : TypeId} {l l' l'' : Lay} {i k o : Nat} {p : List Nat} {bx : Box} {e y : V} {ag : Bool} {rs : List ResultVar} {vs : List V} : f t = .ptr l i k p → L[i]? = some (some bx) → bx.l = l → bx.es[k]? = some e → e.at? l p = some (o, l', y) → l.at? p = some (o, l'') →
    tySize P ty = some l'.len → tyAgg P ty = some ag → y.isAgg = ag → (ag = false → l'.len = 1) → RetV P f L rs vs → RetV P f L (.cell t ty :: rs) (y :: vs)
def ends : Exit → Bool
 | .normal | .ret => true
 | _ => false
def retP (fn : Func) (P : Program) (w0 : World) (S0 : Nat → Prop) (post : List D → Prop) (a : Act) (w' : World) : Prop :=
 a.defers = [] ∧ ∃ v, (results fn a.tmps).run P w' = .ok v w' ∧ (∃ x rs S', Ending.returned v = .returned x ∧ post rs ∧ RetR S' w' rs x ∧ (∀ b, S0 b → S' b) ∧ (∀ b, S' b → b < w'.heap.size ∧ (S0 b ∨ w0.heap.size ≤ b)) ∧ Pres (fun _ => False) w0 w')
def retQ (fn : Func) (P : Program) (w0 : World) (S0 : Nat → Prop) (post : List D → Prop) : AQ := fun e a w => ends e = true ∧ retP fn P w0 S0 post a w
theorem known_VR0 {β : Beta} {S : Nat → Prop} {w : World} {v : V} {x : Value} (h : VR β S w v x) (hk : v.known = true) : VR0 β S w v x := by
 cases v with
 | any => cases hk
 | tup _ => cases hk
 | _ => exact h
def oneRes (tmps : Array Value) : ResultVar → Sem Value
 | .tmp t => pure (tmps.getD t undef)
 | .cell b t => do loadVar t (← asAddr (tmps.getD b undef))
theorem results_eq (fn : Func) (tmps : Array Value) : results fn tmps = (do let vs ← fn.results.mapM (oneRes tmps); pure (if h : vs.size = 1 then vs[0] else .tuple vs)) := by
 unfold results
 congr 1
theorem RetV_run {a : Act} {w : World} {β : Beta} {S : Nat → Prop} (hr : Rel C n f L a w β S) : ∀ {rs : List ResultVar} {vs : List V}, RetV P f L rs vs →
 ∃ xs, (rs.mapM (oneRes a.tmps)).run P w = .ok xs w ∧ All2 (VR0 β S w) vs xs
 | _, _, .nil => ⟨[], rfl, .nil⟩
 | _, _, .tmp (t := t) h1 hk k => by
   obtain ⟨xs, e, h⟩ := RetV_run hr k
   have hv := hr.fr t
   rw [h1] at hv
   refine ⟨a.tmps.getD t undef :: xs, ?_, .cons (known_VR0 hv hk) h⟩
   simp only [List.mapM_cons, oneRes, Sem.run_bind, Sem.run_pure, Result.andThen]
   rw [e]
 | _, _, .cell (t := t) (ty := ty) (l := l) (l' := l') (i := i) (k := kk) (p := p) (bx := bx) (e := e) (y := y) (o := o) h1 hL hbl he hp hq hs ha hag h11 k => by
   subst hag
   obtain ⟨xs, e', h⟩ := RetV_run hr k
   have hv := hr.fr t
   rw [h1] at hv
   obtain ⟨b, Cp, o2, l2, h2, h3, h4⟩ := VR_ptr hv
   rw [hq] at h3
   injection h3 with h3; injection h3 with h3 h3'
   subst h3; subst h3'; subst hbl
   obtain ⟨cs, k1, k2, k3⟩ := box_elem (hr.hp.bx i bx hL) h2 he
   obtain ⟨c1, c2, c3, rfl, q1, q2, q3, _⟩ := VC_at p e bx.l cs o l' y k1 k2 hp
   have hc := cellsAt_mid k3
   rw [q1] at hc
   have hrun := run_loadVar' (P := P) (t := ty) ha (by rw [q2]; exact hs) (fun h => by rw [q2]; exact h11 h) hc
   refine ⟨(if y.isAgg then .agg c2.toArray else c2.headD undef) :: xs, ?_, .cons (VR0_of_cells q3 fun h => by rw [q2]; exact h11 h) h⟩
   simp only [List.mapM_cons, oneRes, h4, asAddr, Sem.run_bind, Sem.run_pure, Result.andThen, hrun]
   rw [e']
theorem results_run {fn : Func} {tmps : Array Value} {w : World} {xs : List Value} (h : (fn.results.toList.mapM (oneRes tmps)).run P w = .ok xs w) :
 (results fn tmps).run P w = .ok (if h : xs.toArray.size = 1 then xs.toArray[0] else .tuple xs.toArray) w := by
 rw [results_eq, Array.mapM_eq_mapM_toList, map_eq_pure_bind]
 simp only [Sem.run_bind, h, Result.andThen, Sem.run_pure]
structure CExt (C C' : Cx) : Prop where
 pres : Pres C.Dm C.w0 C'.w0
 dm : ∀ b, C'.Dm b → C.Dm b ∨ C.w0.heap.size ≤ b
 s0 : ∀ b, C.S0 b → C'.S0 b
 fz : ∀ b, C'.S0 b → C.S0 b ∨ C.w0.heap.size ≤ b ∨ C.Dm b
theorem CExt.refl (C : Cx) : CExt C C := ⟨Pres.refl _ _, fun _ h => .inl h, fun _ h => h, fun _ h => .inl h⟩
theorem Rel.back {C C' : Cx} (h : CExt C C') {a : Act} {w : World} {β : Beta} {S : Nat → Prop} (hr : Rel C' n f L a w β S) : Rel C n f L a w β S := by
 have hs := h.pres.size
 refine ⟨hr.df, hr.sz, hr.fr, hr.hp, ?_, ?_, fun b hb => hr.s0 b (h.s0 b hb), ?_⟩
 ·intro i bx b c hL hb
  rcases hr.own i bx b c hL hb with h1 | h1
  ·exact h.dm b h1
  ·exact .inr (by omega)
 ·intro b hb
  rcases hr.fz b hb with h1 | h1 | h1
  ·exact h.fz b h1
  ·exact .inr (.inl (by omega))
  ·rcases h.dm b h1 with h2 | h2
   ·exact .inr (.inr h2)
   ·exact .inr (.inl h2)
 ·refine ⟨hr.pres.os.trans h.pres.os, hr.pres.tape.trans h.pres.tape, hr.pres.output.trans h.pres.output, Nat.le_trans hs hr.pres.size, fun b hb hd => ?_⟩
  rw [hr.pres.block b (by omega) (fun h1 => by
   rcases h.dm b h1 with h2 | h2
   ·exact hd h2
   ·omega)]
  exact h.pres.block b hb hd
theorem CExt.trans {C C' C'' : Cx} (h : CExt C C') (k : CExt C' C'') : CExt C C'' := by
 have hs := h.pres.size
 refine ⟨⟨k.pres.os.trans h.pres.os, k.pres.tape.trans h.pres.tape, k.pres.output.trans h.pres.output, Nat.le_trans hs k.pres.size, fun b hb hd => ?_⟩, ?_, fun b hb => k.s0 b (h.s0 b hb), ?_⟩
 ·rw [k.pres.block b (by omega) (fun h1 => by
   rcases h.dm b h1 with h2 | h2
   ·exact hd h2
   ·omega)]
  exact h.pres.block b hb hd
 ·intro b hb
  rcases k.dm b hb with h1 | h1
  ·exact h.dm b h1
  ·exact .inr (by omega)
 ·intro b hb
  rcases k.fz b hb with h1 | h1 | h1
  ·exact h.fz b h1
  ·exact .inr (.inl (by omega))
  ·rcases h.dm b h1 with h2 | h2
   ·exact .inr (.inr h2)
   ·exact .inr (.inl h2)
def CT (P : Program) (C : Cx) : Prop := ∀ g, P.globalNamed "internal/strconv.uint64pow10" = some g → C.S0 g ∧ ¬ C.Dm g ∧ Lib.TabIs P C.w0 "internal/strconv.uint64pow10" .u64 Lib.pow10Tab
theorem CT.tab {a : Act} {w : World} {β : Beta} {S : Nat → Prop} (h : CT P C) (hr : Rel C n f L a w β S) : Tab P S w := fun g hg => by
 obtain ⟨h1, h2, h3⟩ := h g hg
 exact ⟨hr.s0 g h1, TabIs_same hg h3 (hr.pres.block g (TabIs_lt hg h3) h2)⟩
theorem CT.ext {C C' : Cx} (h : CT P C) (k : CExt C C') : CT P C' := fun g hg => by
 obtain ⟨h1, h2, h3⟩ := h g hg
 have hl := TabIs_lt hg h3
 refine ⟨k.s0 g h1, fun hd => ?_, TabIs_same hg h3 (k.pres.block g hl h2)⟩
 rcases k.dm g hd with h4 | h4
 ·exact h2 h4
 ·omega
theorem CT.start {w : World} {S Dm : Nat → Prop} (h : Tab P S w) (hd : ∀ b, S b → ¬ Dm b) : CT P ⟨w, Dm, S⟩ := fun g hg => ⟨(h g hg).1, hd g (h g hg).1, (h g hg).2⟩
theorem ret_fin {C0 : Cx} {fn : Func} {post : List D → Prop} {vs : List V} {rs : List D} (hx : CExt C0 C) (hdm : ∀ b, ¬ C0.Dm b) (hrv : RetV P f L fn.results.toList vs) (hrd : ReadsL L (fun _ => True) vs rs) (hpost : post rs) : Fin C n (retP fn P C0.w0 C0.S0 post) f L := by
 intro a w' β' S' hr
 have hr := hr.back hx
 obtain ⟨ys, hy, hall⟩ := RetV_run hr hrv
 have hrun := results_run (fn := fn) hy
 let S2 : Nat → Prop := fun b => S' b ∨ ∃ i bx c, L[i]? = some (some bx) ∧ β' i = some (some (b, c))
 have hsound : ∀ (vs : List V) (rs : List D) (ys : List Value), ReadsL L (fun _ => True) vs rs → All2 (VR0 β' S' w') vs ys → (∀ v ∈ vs, v ≠ .any) → All2 (RD S2 w') rs ys := by
  intro vs rs ys h1 h2
  induction h2 generalizing rs with
  | nil => intro _; cases h1; exact .nil
  | cons h3 _ ih =>
    intro hne
    cases h1 with
    | cons k1 k2 =>
      refine .cons ?_ (ih _ k2 fun v hv => hne v (by simp [hv]))
      rcases h3 with h3 | ⟨h3, h4⟩
      ·exact absurd h3 (hne _ (by simp))
      ·exact ⟨Reads_sound hr.hp (fun b h => .inl h) (fun i bx b c _ hL hb => .inr ⟨i, bx, c, hL, hb⟩) k1 _ h3, by rw [← Reads_isAgg k1]; exact h4⟩
 have hne : ∀ {vs : List V} {rs : List D}, ReadsL L (fun _ => True) vs rs → ∀ v ∈ vs, v ≠ .any := by
  intro vs rs h
  induction vs generalizing rs with
  | nil => simp
  | cons v vs ih =>
    cases h with
    | cons k1 k2 =>
      intro u hu
      rcases List.mem_cons.1 hu with rfl | hu
      ·rintro rfl; cases k1
      ·exact ih k2 u hu
 have hrd' := hsound vs rs ys hrd hall (hne hrd)
 have hret : RetR S2 w' rs (if h : ys.toArray.size = 1 then ys.toArray[0] else .tuple ys.toArray) := by
  cases hrd' with
  | nil => exact ⟨[], by simp, .nil⟩
  | cons k1 k2 =>
    cases k2 with
    | nil => simpa [RetR] using k1
    | cons k3 k4 => exact ⟨_, by simp, .cons k1 (.cons k3 k4)⟩
 refine ⟨hr.df, _, hrun, _, rs, S2, rfl, hpost, hret, fun b hb => .inl (hr.s0 b hb), ?_, ⟨hr.pres.os, hr.pres.tape, hr.pres.output, hr.pres.size, fun b hb _ => hr.pres.block b hb (hdm b)⟩⟩
 rintro b (hb | ⟨i, bx, c, hL, hb⟩)
 ·exact ⟨hr.hp.fz b hb, (hr.fz b hb).imp id fun h => h.elim id fun h => (hdm b h).elim⟩
 ·refine ⟨(hr.hp.bx i bx hL).lt hb, ?_⟩
  rcases hr.own i bx b c hL hb with h1 | h1
  ·exact (hdm b h1).elim
  ·exact .inr h1
theorem PCall_of {k : FuncId} {fn : Func} {c : Code} {ds : List D} {post : List D → Prop} (hf : P.funcs[k]? = some fn) (hb : fn.body = some c) (hn : fn.ntmps = n) (hlen : ds.length ≤ n) (h : ∀ C, (∀ b, ¬ C.Dm b) → CT P C → AC P C n c (retQ fn P C.w0 C.S0 post) (fr0 ds) []) : PCall P k ds post := by
 intro w S xs hS hT hd
 have hxl : xs.length = ds.length := by
  clear h
  induction hd with
  | nil => rfl
  | cons _ _ ih => simp [ih (by simp at hlen; omega)]
 refine calls_of_wp hf hb ?_
 let C : Cx := ⟨w, fun _ => False, S⟩
 have hget : ∀ (ds : List D) (xs : List Value), All2 (RD S w) ds xs → ∀ (i : Nat) (d : D), ds[i]? = some d → ∃ x : Value, xs[i]? = some x ∧ RD S w d x := by
  intro ds xs h
  induction h with
  | nil => intro i d h; simp at h
  | cons h1 _ ih =>
    intro i d hi
    cases i with
    | zero => simp at hi; subst hi; exact ⟨_, rfl, h1⟩
    | succ i => simp at hi; simpa using ih i d hi
 have hrel : Rel C n (fr0 ds) [] { tmps := xs.toArray ++ Array.replicate (fn.ntmps - xs.toArray.size) undef, defers := [] } w (fun _ => none) S := by
  refine ⟨rfl, ?_, fun i => ?_, ⟨?_, ?_, ?_, hS, fun _ _ => rfl, fun i bx q hi => by simp at hi⟩, ?_, fun b hb => .inl hb, fun b hb => hb, Pres.refl _ _⟩
  ·simp; omega
  ·show VR _ _ _ (match ds[i]? with | some d => V.d d | none => .any) _
   cases e : ds[i]? with
   | none => exact VR_any ..
   | some d =>
     obtain ⟨x, hx, hrd⟩ := hget ds xs hd i d e
     have : (xs.toArray ++ Array.replicate (fn.ntmps - xs.toArray.size) undef).getD i undef = x := by
      have hi := lt_of_get hx
      rw [Array.getD_eq_getD_getElem?, Array.getElem?_append_left (by simpa using hi), List.getElem?_toArray, hx]
      rfl
     simp only
     rw [this]
     exact VR0_of_RD hrd
  ·intro i b h; simp at h
  ·intro i j b bx bx' c c' h; simp at h
  ·intro i bx b c h; simp at h
  ·intro i bx b c h; simp at h
 refine wp_mono (h C (fun _ h => h) (CT.start hT fun _ _ h => h) _ w _ S hrel) ?_
 rintro e a w' ⟨hend, fin⟩
 cases e with
 | normal => exact fin
 | ret => exact fin
 | _ => cases hend
end
end Go.Eng
set_option linter.unusedVariables false
set_option linter.unusedSimpArgs false
namespace Go.Eng
section
variable {P : Program} {C : Cx} {n : Nat} {f : Fr} {L : Hp} {Q : AQ} {ops : Array Oper} {qt : List Nat} {rest : List Oper} {dst : Option Tmp} {ty : TypeId} {pos : String} {after : Array Edge}
abbrev callV (x : Operand) (args : Array Operand) (ts : Array TypeId) : Op := .call { callee := .value x, args := args, argTypes := ts }
theorem VR_fn {β : Beta} {S : Nat → Prop} {w : World} {k : FuncId} {caps : List D} {v : Value} (h : VR β S w (.d (.fn k caps)) v) : ∃ xs, v = .func (.func k) #[] xs.toArray ∧ DCs S w (List.replicate caps.length .one) caps xs := by
 have := one_cell h (by simp) rfl
 simp only [VC, DC] at this
 simpa using this
theorem caps_RD {S : Nat → Prop} {w : World} : ∀ (caps : List D) (xs : List Value), caps.all (fun d => !d.isAgg) = true → DCs S w (List.replicate caps.length .one) caps xs → All2 (RD S w) caps xs
 | [], xs, _, h => by
   simp only [DCs] at h
   obtain ⟨_, rfl⟩ := h
   exact .nil
 | d :: caps, xs, hc, h => by
   simp only [List.length_cons, List.replicate_succ, DCs] at h
   obtain ⟨f, fr, c1, c2, e, rfl, h3, h4, h5⟩ := h
   injection e with e1 e2
   subst e1; subst e2
   simp only [List.all_cons, Bool.and_eq_true] at hc
   have hl : c1.length = 1 := h3
   match c1, hl with
   | [x], _ =>
     have hs := DC_scalar d _ h4 x (by simp)
     refine .cons ⟨?_, ?_⟩ (caps_RD caps c2 hc.2 h5)
     ·rw [cells_scalar hs]; exact h4
     ·rw [isAgg_scalar hs]; simpa using hc.1
theorem All2.append {A B : Type} {R : A → B → Prop} {l l' : List A} {r r' : List B} (h : All2 R l r) (k : All2 R l' r') : All2 R (l ++ l') (r ++ r') := by
 induction h with
 | nil => exact k
 | cons h1 _ ih => exact .cons h1 ih
theorem args_RD {a : Act} {w : World} {β : Beta} {S : Nat → Prop} (hr : Rel C n f L a w β S) : ∀ (args : List Operand) (ds : List D), args.map (ev f) = ds.map V.d → All2 (RD S w) ds (args.map a.eval)
 | [], ds, h => by
   cases ds with
   | nil => exact .nil
   | cons d ds => simp at h
 | x :: args, ds, h => by
   cases ds with
   | nil => simp at h
   | cons d ds =>
     simp only [List.map_cons, List.cons.injEq] at h
     have := rel_ev hr x
     rw [h.1] at this
     exact .cons (RD_of_VR0 this) (args_RD hr args ds h.2)
theorem VR_retV {β : Beta} {S : Nat → Prop} {w : World} {rs : List D} {x : Value} (h : RetR S w rs x) : VR β S w (retV rs) x := by
 have tupc : (∃ xs : List Value, x = .tuple xs.toArray ∧ All2 (RD S w) rs xs) → VR β S w (.tup (rs.map V.d)) x := by
  rintro ⟨xs, e, h⟩
  have key : ∀ (rs : List D) (xs : List Value), All2 (RD S w) rs xs → All2 (VR0 β S w) (rs.map V.d) xs := by
   intro rs xs h
   induction h with
   | nil => exact .nil
   | cons h1 _ ih => exact .cons (VR0_of_RD h1) ih
  exact ⟨xs, e, key rs xs h⟩
 match rs, h with
 | [], h => exact tupc h
 | [r], h => exact VR0_of_RD h
 | r1 :: r2 :: rs, h => exact tupc h
theorem Rel.called {a : Act} {w w' : World} {β : Beta} {S S' : Nat → Prop} (h : Rel C n f L a w β S) (hp : Pres (fun _ => False) w w') (su : ∀ b, S b → S' b) (hb : ∀ b, S' b → b < w'.heap.size ∧ (S b ∨ w.heap.size ≤ b)) : Rel C n f L a w' β S' := by
 have old : ∀ b, b < w.heap.size → w'.heap[b]? = w.heap[b]? := fun b hb => hp.block b hb (fun h => h)
 have lat : Later β S w β S' w' := ⟨fun _ _ h => h, su, fun b hb => old b (h.hp.fz b hb)⟩
 refine h.later lat ⟨fun i b hi => BoxR_later lat (fun b' c hb => old b' ((h.hp.bx i b hi).lt hb)) (h.hp.bx i b hi), h.hp.inj, ?_, fun b hS => (hb b hS).1, h.hp.un, h.hp.ad⟩ h.own ?_ ?_
 ·intro i bx b c hi hbi hs
  rcases (hb b hs).2 with h1 | h1
  ·exact h.hp.own i bx b c hi hbi h1
  ·have := (h.hp.bx i bx hi).lt hbi
   omega
 ·intro b hs
  rcases (hb b hs).2 with h1 | h1
  ·exact h.fz b h1
  ·have := h.pres.size
   exact .inr (.inl (by omega))
 ·exact ⟨hp.os.trans h.pres.os, hp.tape.trans h.pres.tape, hp.output.trans h.pres.output, by have := h.pres.size; have := hp.size; omega, fun b hb hd => (old b (by have := h.pres.size; omega)).trans (h.pres.block b hb hd)⟩
theorem call_run {a : Act} {w : World} {x : Operand} {args : Array Operand} {ts : Array TypeId} {k : FuncId} {xs : List Value} (hc : Callable P k) (hx : a.eval x = .func (.func k) #[] xs.toArray) :
 (execOp a.eval ⟨dst, callV x args ts, ty, pos, after, none⟩).run P w = .ok (.enter k (args.map a.eval ++ xs.toArray)) w := by
 simp only [execOp, resolve, Sem.run_bind, hx, Deferred.ofValue, Sem.run_pure, Result.andThen, invoke, Array.empty_append]
 exact hc _ w
theorem AL_pcall (hT : CT P C) {x : Operand} {args : Array Operand} {ts : Array TypeId} {k : FuncId} {ds caps : List D} {post : List D → Prop} (hx : ev f x = .d (.fn k caps)) (hcaps : caps.all (fun d => !d.isAgg) = true) (hc : Callable P k)
 (hp : PCall P k (ds ++ caps) post) (ha : args.toList.map (ev f) = ds.map V.d) (hd : dstOk n dst = true) (h : ∀ rs, post rs → AL P C n ops rest Q (updo f dst (retV rs)) L) : AL P C n ops (⟨dst, callV x args ts, ty, pos, after, none⟩ :: rest) Q f L := by
 refine AL_stepQ (Z := fun f' L' => ∃ rs, post rs ∧ f' = updo f dst (retV rs) ∧ L' = L) rfl ?_ (fun f' L' ⟨rs, h1, h2, h3⟩ => by subst h2; subst h3; exact h rs h1)
 intro a w β S hr K Qc hK
 have hv := rel_ev hr x
 rw [hx] at hv
 obtain ⟨xs, h1, h2⟩ := VR_fn hv
 unfold Oper.wp
 rw [call_run hc h1, Oper.upon_enter]
 have hall := (args_RD hr args.toList ds ha).append (caps_RD caps xs hcaps h2)
 have heq : (args.map a.eval ++ xs.toArray) = (args.toList.map a.eval ++ xs).toArray := by simp
 rw [heq]
 refine (hp w S _ hr.hp.fz (hT.tab hr) hall).mono ?_
 rintro e w' ⟨y, rs, S', rfl, q1, q2, q3, q4, q5⟩
 exact hK _ _ _ _ _ _ ((hr.called q5 q3 q4).puto (dstOk_spec hd) (VR_retV q2)) ⟨rs, q1, rfl, rfl⟩
theorem AL_fcall (hT : CT P C) {x : Operand} {args : Array Operand} {ts : Array TypeId} {k : FuncId} {ds caps rs : List D} (hx : ev f x = .d (.fn k caps)) (hcaps : caps.all (fun d => !d.isAgg) = true) (hc : Callable P k)
 (hp : PCall P k (ds ++ caps) (· = rs)) (ha : args.toList.map (ev f) = ds.map V.d) (hd : dstOk n dst = true) (h : AL P C n ops rest Q (updo f dst (retV rs)) L) : AL P C n ops (⟨dst, callV x args ts, ty, pos, after, none⟩ :: rest) Q f L :=
 AL_pcall hT hx hcaps hc hp ha hd fun rs' e => by subst e; exact h
theorem Ev_func {k : FuncId} {caps : Array Operand} {ds : List D} (ha : caps.toList.map (ev f) = ds.map V.d) (hcaps : ds.all (fun d => !d.isAgg) = true) : Ev P C n ⟨dst, .makeFunc (.func k) #[] caps, ty, pos, after, none⟩ f L (.d (.fn k ds)) := by
 intro a w β S hr
 have hall := args_RD hr caps.toList ds ha
 refine ⟨.func (.func k) #[] (caps.toList.map a.eval).toArray, by
  have : caps.map a.eval = (caps.toList.map a.eval).toArray := by rw [← Array.toList_map]
  simp only [execOp, Instr.makeFunc, Sem.run_bind, Sem.run_pure, Result.andThen, ← this]
  simp, .inr ⟨?_, rfl⟩⟩
 simp only [VC, DC]
 refine ⟨caps.toList.map a.eval, rfl, ?_⟩
 have key : ∀ (ds : List D) (xs : List Value), ds.all (fun d => !d.isAgg) = true → All2 (RD S w) ds xs → DCs S w (List.replicate ds.length .one) ds xs := by
  intro ds xs hd h
  induction h with
  | nil => simp [DCs]
  | cons h1 _ ih =>
    simp only [List.all_cons, Bool.and_eq_true] at hd
    simp only [List.length_cons, List.replicate_succ, DCs]
    rename_i d x l r _
    have hx : isAggV x = false := by rw [← h1.2]; simpa using hd.1
    have hcx : x.cells = #[x] := by cases x <;> first | rfl | simp [isAggV] at hx
    have h11 := h1.1
    rw [hcx] at h11
    exact ⟨_, _, [x], r, rfl, rfl, rfl, h11, ih hd.2⟩
 exact key _ _ hcaps hall
theorem Ev_funcV {k : FuncId} {caps : Array Operand} {vs : List V} (ha : caps.toList.map (ev f) = vs) (hcaps : vs.all (fun v => v.known && !v.isAgg) = true) : Ev P C n ⟨dst, .makeFunc (.func k) #[] caps, ty, pos, after, none⟩ f L (.fn k vs) := by
 intro a w β S hr
 refine ⟨.func (.func k) #[] (caps.toList.map a.eval).toArray, by
  have : caps.map a.eval = (caps.toList.map a.eval).toArray := by rw [← Array.toList_map]
  simp only [execOp, Instr.makeFunc, Sem.run_bind, Sem.run_pure, Result.andThen, ← this]
  simp, .inr ⟨?_, rfl⟩⟩
 simp only [VC]
 refine ⟨caps.toList.map a.eval, rfl, ?_⟩
 have key : ∀ (os : List Operand) (vs : List V), os.map (ev f) = vs → vs.all (fun v => v.known && !v.isAgg) = true → VCs β S w (List.replicate vs.length .one) vs (os.map a.eval) := by
  intro os
  induction os with
  | nil => rintro vs rfl _; simp [VCs]
  | cons o os ih =>
    rintro vs rfl hv
    simp only [List.map_cons, List.all_cons, Bool.and_eq_true] at hv
    simp only [List.map_cons, List.length_cons, List.replicate_succ, VCs]
    have h1 := rel_ev hr o
    have h2 := one_cell (known_VR0 h1 hv.1.1) (by intro e; rw [e] at hv; simp [V.known] at hv) (by simpa using hv.1.2)
    exact ⟨_, _, [a.eval o], _, rfl, rfl, rfl, h2, ih _ rfl hv.2⟩
 exact key _ _ ha hcaps
def updl (f : Fr) : List (Nat × V) → Fr
 | [] => f
 | (i, v) :: r => upd (updl f r) i v
def dropL (is : List Nat) (L : Hp) : Hp := is.foldl (fun L i => L.set i none) L
theorem dropL_get : ∀ (is : List Nat) (L : Hp) (i : Nat) (b : Box), (dropL is L)[i]? = some (some b) → L[i]? = some (some b) ∧ i ∉ is
 | [], L, i, b, h => ⟨h, by simp⟩
 | j :: is, L, i, b, h => by
   obtain ⟨h1, h2⟩ := dropL_get is (L.set j none) i b h
   rw [List.getElem?_set] at h1
   by_cases e : j = i
   ·subst e
    by_cases hj : j < L.length
    ·rw [if_pos rfl, if_pos hj] at h1; cases h1
    ·rw [if_pos rfl, if_neg hj] at h1; cases h1
   ·rw [if_neg e] at h1
    exact ⟨h1, by simp [h2]; exact fun h => e h.symm⟩
theorem dropL_length (is : List Nat) (L : Hp) : (dropL is L).length = L.length := by
 induction is generalizing L with
 | nil => rfl
 | cons j is ih => simp [dropL] at ih ⊢; rw [ih]; simp
theorem Rel.virt {a : Act} {w : World} {β : Beta} {S : Nat → Prop} (h : Rel C n f L a w β S) (e : TypeId) (l : Lay) : Rel C n f (L ++ [some ⟨e, l, []⟩]) a w (setβ β L.length none) S := by
 have lat : Later β S w (setβ β L.length none) S w := later_new (h.hp.un _ (Nat.le_refl _)) fun _ _ => rfl
 have cases_ : ∀ i b, (L ++ [some (⟨e, l, []⟩ : Box)])[i]? = some (some b) → (i < L.length ∧ L[i]? = some (some b)) ∨ (i = L.length ∧ (⟨e, l, []⟩ : Box) = b) := fun i b hi => by
  rcases get_snoc _ _ _ _ hi with h1 | ⟨h1, h2⟩
  ·exact .inl h1
  ·exact .inr ⟨h1, by injection h2⟩
 have real : ∀ i bx b c, (L ++ [some (⟨e, l, []⟩ : Box)])[i]? = some (some bx) → setβ β L.length none i = some (some (b, c)) → i < L.length ∧ L[i]? = some (some bx) ∧ β i = some (some (b, c)) := fun i bx b c hi hb => by
  rcases cases_ i bx hi with ⟨h1, h2⟩ | ⟨rfl, _⟩
  ·rw [setβ_ne _ _ (by omega)] at hb; exact ⟨h1, h2, hb⟩
  ·rw [setβ_self] at hb; cases hb
 refine h.later lat ⟨?_, ?_, ?_, h.hp.fz, ?_, ?_⟩ ?_ h.fz h.pres
 ·intro i b hi
  rcases cases_ i b hi with ⟨h1, h2⟩ | ⟨rfl, rfl⟩
  ·exact BoxR_later lat (fun _ _ _ => rfl) (h.hp.bx i b h2)
  ·exact ⟨Nat.zero_le _, .inl ⟨setβ_self _ _ _, rfl⟩⟩
 ·intro i j b bx bx' c c' hi hj hbi hbj
  obtain ⟨_, h1, h2⟩ := real i bx b c hi hbi
  obtain ⟨_, k1, k2⟩ := real j bx' b c' hj hbj
  exact h.hp.inj i j b bx bx' c c' h1 k1 h2 k2
 ·intro i bx b c hi hb
  obtain ⟨_, h1, h2⟩ := real i bx b c hi hb
  exact h.hp.own i bx b c h1 h2
 ·intro i hi
  simp at hi
  rw [setβ_ne _ _ (by omega)]
  exact h.hp.un i (by omega)
 ·intro i bx1 q hi hq
  rcases cases_ i _ hi with ⟨h1, h2⟩ | ⟨rfl, rfl⟩
  ·rw [setβ_ne _ _ (by omega)]
   exact h.hp.ad i bx1 q h2 hq
  ·cases hq
 ·intro i bx b c hi hb
  obtain ⟨_, h1, h2⟩ := real i bx b c hi hb
  exact h.own i bx b c h1 h2
theorem Rel.updl {a : Act} {w : World} {β : Beta} {S : Nat → Prop} (h : Rel C n f L a w β S) : ∀ (us : List (Nat × V)), (∀ q ∈ us, VR β S w q.2 (a.tmps.getD q.1 undef)) → Rel C n (updl f us) L a w β S
 | [], _ => h
 | (i, v) :: us, hv => by
   have ih := Rel.updl h us fun q hq => hv q (by simp [hq])
   refine ⟨ih.df, ih.sz, fun j => ?_, ih.hp, ih.own, ih.fz, ih.s0, ih.pres⟩
   show VR β S w (upd (Go.Eng.updl f us) i v j) _
   by_cases e : j = i
   ·subst e; rw [upd_self]; exact hv (j, v) (by simp)
   ·rw [upd_ne _ _ _ _ e]; exact ih.fr j
def ReadsAll (L : Hp) (F : Nat → Prop) (f : Fr) : List (Nat × D) → Prop
 | [] => True
 | (i, x) :: r => Reads L F (f i) x ∧ ReadsAll L F f r
def asV (us : List (Nat × D)) : List (Nat × V) := us.map fun q => (q.1, .d q.2)
theorem reads_notup {F : Nat → Prop} {v : V} {x : D} (h : Reads L F v x) : v.known = true := by cases h <;> rfl
theorem Wk_nil_slot {Z : Fr → Hp → Prop} (s : Nat) (e : TypeId) (l : Lay) (hs : f s = nilsl) (m : Nat) (hm : L.length = m) (h : Z (upd f s (.ref l m 0 0)) (L ++ [some ⟨e, l, []⟩])) : Wk C n f L Z := by
 subst hm
 intro a w β S hr
 have hr' := hr.virt e l
 have hv := hr.fr s
 rw [hs] at hv
 have := (VR_c.1 hv).1
 exact ⟨_, _, _, S, hr'.updl [(s, .ref l L.length 0 0)] (fun q hq => by
  simp only [List.mem_singleton] at hq
  subst hq
  exact VR_ref_mk (.inl ⟨setβ_self _ _ _, this, rfl, rfl⟩)), h⟩
end
end Go.Eng
set_option linter.unusedVariables false
set_option linter.unusedSimpArgs false
namespace Go.Eng
def srcOf (src : List (Option Nat)) (j : Nat) : Option Nat := match src[j]? with | some o => o | none => none
mutual
inductive Vw (L : Hp) (src : List (Option Nat)) : V → V → Prop
 | any {v : V} : Vw L src v .any
 | rd {v : V} {x : D} : Reads L (fun i => ∀ j, srcOf src j ≠ some i) v x → Vw L src v (.d x)
 | agg {fs : List Lay} {vs vs' : List V} : VwL L src vs vs' → Vw L src (.agg fs vs) (.agg fs vs')
 | ref {l : Lay} {i j off m : Nat} : srcOf src j = some i → Vw L src (.ref l i off m) (.ref l j off m)
 | ptr {l : Lay} {i j k : Nat} {p : List Nat} : srcOf src j = some i → Vw L src (.ptr l i k p) (.ptr l j k p)
 | fn {k : FuncId} {vs vs' : List V} : VwL L src vs vs' → Vw L src (.fn k vs) (.fn k vs')
inductive VwL (L : Hp) (src : List (Option Nat)) : List V → List V → Prop
 | nil : VwL L src [] []
 | cons {v v' : V} {vs vs' : List V} : Vw L src v v' → VwL L src vs vs' → VwL L src (v :: vs) (v' :: vs')
end
theorem VwL_length {L : Hp} {src : List (Option Nat)} : ∀ {vs vs' : List V}, VwL L src vs vs' → vs.length = vs'.length
 | _, _, .nil => rfl
 | _, _, .cons _ h => by simp [VwL_length h]
theorem VwL_d {L : Hp} {src : List (Option Nat)} : ∀ xs : List D, VwL L src (xs.map V.d) (xs.map V.d)
 | [] => .nil
 | x :: xs => .cons (.rd .d) (VwL_d xs)
section
variable {β β2 : Beta} {S S' : Nat → Prop} {w : World} {L : Hp} {src : List (Option Nat)}
mutual
theorem Vw_sound (hp : HeapR β S w L) (su : ∀ b, S b → S' b) (hF : ∀ i bx b c, (∀ j, srcOf src j ≠ some i) → L[i]? = some (some bx) → β i = some (some (b, c)) → S' b) (h2 : ∀ j i, srcOf src j = some i → β2 j = β i) :
 ∀ {v v' : V}, Vw L src v v' → ∀ cs, VC β S w v cs → VC β2 S' w v' cs
 | v, _, .any, cs, h => by
   simp only [VC]
   exact VC_scalar v cs h
 | _, _, .rd k, cs, h => by
   simp only [VC]
   exact Reads_sound hp su hF k cs h
 | _, _, .agg k, cs, h => by
   simp only [VC] at h ⊢
   exact VwL_sound hp su hF h2 k _ cs h
 | _, _, .ref (j := j) (i := i) k, cs, h => by
   simp only [VC, h2 j i k] at h ⊢
   exact h
 | _, _, .ptr (j := j) (i := i) k, cs, h => by
   simp only [VC, h2 j i k] at h ⊢
   exact h
 | _, _, .fn k, cs, h => by
   simp only [VC] at h ⊢
   obtain ⟨xs, h3, h4⟩ := h
   refine ⟨xs, h3, ?_⟩
   rw [← VwL_length k]
   exact VwL_sound hp su hF h2 k _ xs h4
theorem VwL_sound (hp : HeapR β S w L) (su : ∀ b, S b → S' b) (hF : ∀ i bx b c, (∀ j, srcOf src j ≠ some i) → L[i]? = some (some bx) → β i = some (some (b, c)) → S' b) (h2 : ∀ j i, srcOf src j = some i → β2 j = β i) :
 ∀ {vs vs' : List V}, VwL L src vs vs' → ∀ fs cs, VCs β S w fs vs cs → VCs β2 S' w fs vs' cs
 | _, _, .nil, fs, cs, h => by simpa only [VCs] using h
 | _, _, .cons k1 k2, fs, cs, h => by
   simp only [VCs] at h ⊢
   obtain ⟨f, fr, c1, c2, e1, e2, e3, e4, e5⟩ := h
   exact ⟨f, fr, c1, c2, e1, e2, e3, Vw_sound hp su hF h2 k1 c1 e4, VwL_sound hp su hF h2 k2 fr c2 e5⟩
end
theorem Vw_isAgg {v v' : V} (h : Vw L src v v') (hn : v' ≠ .any) : v.isAgg = v'.isAgg := by
 cases h with
 | any => exact absurd rfl hn
 | rd k => exact Reads_isAgg k
 | _ => rfl
end
def BxTo (L : Hp) (src : List (Option Nat)) : Nat → Hp → Prop
 | _, [] => True
 | j, none :: r => BxTo L src (j + 1) r
 | j, some b2 :: r => (∃ i b1, srcOf src j = some i ∧ L[i]? = some (some b1) ∧ b1.ty = b2.ty ∧ b1.l = b2.l ∧ VwL L src b1.es b2.es) ∧ BxTo L src (j + 1) r
theorem BxTo_get {L : Hp} {src : List (Option Nat)} : ∀ (L2 : Hp) (j0 : Nat), BxTo L src j0 L2 → ∀ j b2, L2[j]? = some (some b2) → ∃ i b1, srcOf src (j0 + j) = some i ∧ L[i]? = some (some b1) ∧ b1.ty = b2.ty ∧ b1.l = b2.l ∧ VwL L src b1.es b2.es
 | [], j0, _, j, b2, h => by simp at h
 | none :: r, j0, k, j, b2, h => by
   cases j with
   | zero => simp at h
   | succ j =>
     simp at h
     have := BxTo_get r (j0 + 1) k j b2 h
     rwa [show j0 + (j + 1) = j0 + 1 + j by omega]
 | some b :: r, j0, k, j, b2, h => by
   cases j with
   | zero => simp at h; subst h; exact k.1
   | succ j =>
     simp at h
     have := BxTo_get r (j0 + 1) k.2 j b2 h
     rwa [show j0 + (j + 1) = j0 + 1 + j by omega]
def SlTo (L : Hp) (src : List (Option Nat)) (f : Fr) : List (Nat × V) → Prop
 | [] => True
 | (i, v) :: r => Vw L src (f i) v ∧ SlTo L src f r
def nodupS : List (Option Nat) → Bool
 | [] => true
 | none :: r => nodupS r
 | some i :: r => !(r.contains (some i)) && nodupS r
theorem nodupS_inj : ∀ (src : List (Option Nat)), nodupS src = true → ∀ j j' i, srcOf src j = some i → srcOf src j' = some i → j = j'
 | [], _, j, j', i, h, _ => by simp [srcOf] at h
 | o :: r, hn, j, j', i, h, h' => by
   have hr : nodupS r = true := by
    cases o with
    | none => exact hn
    | some i => simp only [nodupS, Bool.and_eq_true] at hn; exact hn.2
   have hmem : ∀ q, srcOf r q = some i → some i ∈ r := by
    intro q hq
    unfold srcOf at hq
    split at hq
    ·rename_i o' e
     subst hq
     exact List.mem_of_getElem? e
    ·cases hq
   have hne : o = some i → ∀ q, srcOf r q ≠ some i := by
    rintro rfl q hq
    simp only [nodupS, Bool.and_eq_true] at hn
    have := hmem q hq
    simp [this] at hn
   cases j with
   | zero =>
     cases j' with
     | zero => rfl
     | succ j' =>
       have h0 : o = some i := by simpa [srcOf] using h
       exact absurd (by simpa [srcOf] using h') (hne h0 j')
   | succ j =>
     cases j' with
     | zero =>
       have h0 : o = some i := by simpa [srcOf] using h'
       exact absurd (by simpa [srcOf] using h) (hne h0 j)
     | succ j' =>
       have := nodupS_inj r hr j j' i (by simpa [srcOf] using h) (by simpa [srcOf] using h')
       omega
section
variable {P : Program} {C : Cx} {n : Nat} {f : Fr} {L : Hp} {Q : AQ}
theorem Wk_to {Z : Fr → Hp → Prop} (src : List (Option Nat)) (slots : List (Nat × V)) (L2 : Hp) (hlen : src.length = L2.length) (hnd : nodupS src = true) (hb : BxTo L src 0 L2) (hs : SlTo L src f slots) (h : Z (frOf slots) L2) : Wk C n f L Z := by
 intro a w β S hr
 let β2 : Beta := fun j => match srcOf src j with | some i => β i | none => none
 let S' : Nat → Prop := fun b => S b ∨ ∃ i bx c, (∀ j, srcOf src j ≠ some i) ∧ L[i]? = some (some bx) ∧ β i = some (some (b, c))
 have su : ∀ b, S b → S' b := fun _ h => .inl h
 have hF : ∀ i bx b c, (∀ j, srcOf src j ≠ some i) → L[i]? = some (some bx) → β i = some (some (b, c)) → S' b := fun i bx b c h1 h2 h3 => .inr ⟨i, bx, c, h1, h2, h3⟩
 have h2 : ∀ j i, srcOf src j = some i → β2 j = β i := fun j i e => by simp only [β2, e]
 have old : ∀ j b2, L2[j]? = some (some b2) → ∃ i b1, srcOf src j = some i ∧ L[i]? = some (some b1) ∧ b1.ty = b2.ty ∧ b1.l = b2.l ∧ VwL L src b1.es b2.es := fun j b2 hj => by
  have := BxTo_get L2 0 hb j b2 hj
  simpa using this
 refine ⟨_, _, β2, S', ⟨hr.df, hr.sz, ?_, ⟨?_, ?_, ?_, ?_, ?_, ?_⟩, ?_, ?_, fun b hb => su b (hr.s0 b hb), hr.pres⟩, h⟩
 ·have key : ∀ (sl : List (Nat × V)), SlTo L src f sl → ∀ i, VR β2 S' w (frOf sl i) (a.tmps.getD i undef) := by
   intro sl
   induction sl with
   | nil => intro _ i; exact VR_any ..
   | cons q sl ih =>
     intro hq i
     show VR β2 S' w (upd (frOf sl) q.1 q.2 i) _
     by_cases e : i = q.1
     ·subst e
      rw [upd_self]
      have hv := hr.fr q.1
      have hw := hq.1
      by_cases hany : q.2 = .any
      ·rw [hany]; exact VR_any ..
      ·have hk : (f q.1).known = true := by
        generalize f q.1 = v0 at hw
        generalize q.2 = v1 at hw hany
        cases hw with
        | any => exact absurd rfl hany
        | rd k => exact reads_notup k
        | _ => rfl
       have hv0 := known_VR0 hv hk
       rcases hv0 with hv0 | ⟨hv0, e⟩
       ·rw [hv0] at hk; cases hk
       ·exact VR_of_VR0 (.inr ⟨Vw_sound hr.hp su hF h2 hw _ hv0, by rw [← e, Vw_isAgg hw hany]⟩)
     ·rw [upd_ne _ _ _ _ e]
      exact ih hq.2 i
  exact key slots hs
 ·intro j b2 hj
  obtain ⟨i, b1, k1, k2, k3, k4, k5⟩ := old j b2 hj
  have hl := VwL_length k5
  obtain ⟨q0, q⟩ := hr.hp.bx i b1 k2
  refine ⟨by omega, ?_⟩
  rcases q with ⟨q1, q2⟩ | ⟨b, Cp, cur, ds, q1, q2, q3, q4, q5, q6⟩
  ·refine .inl ⟨by rw [h2 j i k1]; exact q1, ?_⟩
   rw [q2] at hl
   exact List.eq_nil_of_length_eq_zero hl.symm
  ·refine .inr ⟨b, Cp, cur, ds, by rw [h2 j i k1]; exact q1, by rw [← k3]; exact q2, by rw [← k4]; exact q3, by rw [← hl]; exact q4, ?_, q6⟩
   rw [← hl, ← k4]
   exact VwL_sound hr.hp su hF h2 k5 _ ds q5
 ·intro j j' b bx bx' c c' hj hj' hbj hbj'
  obtain ⟨i, b1, k1, k2, _⟩ := old j bx hj
  obtain ⟨i', b1', k1', k2', _⟩ := old j' bx' hj'
  rw [h2 j i k1] at hbj
  rw [h2 j' i' k1'] at hbj'
  have := hr.hp.inj i i' b b1 b1' c c' k2 k2' hbj hbj'
  subst this
  exact nodupS_inj src hnd j j' i k1 k1'
 ·rintro j bx b c hj hbj (hs | ⟨i', bx', c', hni, hL, hbi⟩)
  ·obtain ⟨i, b1, k1, k2, _⟩ := old j bx hj
   rw [h2 j i k1] at hbj
   exact hr.hp.own i b1 b c k2 hbj hs
  ·obtain ⟨i, b1, k1, k2, _⟩ := old j bx hj
   rw [h2 j i k1] at hbj
   have := hr.hp.inj i i' b b1 bx' c c' k2 hL hbj hbi
   subst this
   exact hni j k1
 ·rintro b (hs | ⟨i', bx', c', hni, hL, hbi⟩)
  ·exact hr.hp.fz b hs
  ·exact (hr.hp.bx i' bx' hL).lt hbi
 ·intro j hj
  show (match srcOf src j with | some i => β i | none => none) = none
  have : srcOf src j = none := by
   unfold srcOf
   rw [List.getElem?_eq_none (by omega)]
  rw [this]
 ·intro j bx q hj hq
  obtain ⟨i, b1, k1, k2, k3, _⟩ := old j bx hj
  rw [h2 j i k1]
  exact hr.hp.ad i b1 q k2 (by rw [k3]; exact hq)
 ·intro j bx b c hj hbj
  obtain ⟨i, b1, k1, k2, _⟩ := old j bx hj
  rw [h2 j i k1] at hbj
  exact hr.own i b1 b c k2 hbj
 ·rintro b (hs | ⟨i', bx', c', hni, hL, hbi⟩)
  ·exact hr.fz b hs
  ·exact .inr (hr.own i' bx' b c' hL hbi).symm
theorem Wk_nil_box {Z : Fr → Hp → Prop} (i k : Nat) (p : List Nat) (e : TypeId) (l : Lay) {bx : Box} {e0 e1 : V} {o : Nat} {l' : Lay} (hL : L[i]? = some (some bx)) (he : bx.es[k]? = some e0) (hp : e0.at? bx.l p = some (o, l', nilsl)) (hl1 : l'.len = 1) (m : Nat) (hm : L.length = m)
 (hput : e0.put? p (.ref l m 0 0) = some e1) (h : Z f (L.set i (some { bx with es := bx.es.set k e1 }) ++ [some ⟨e, l, []⟩])) : Wk C n f L Z := by
 subst hm
 intro a w β S hr
 have hr' := hr.virt e l
 have lat : Later β S w (setβ β L.length none) S w := later_new (hr.hp.un _ (Nat.le_refl _)) fun _ _ => rfl
 have hi : i < L.length := lt_of_get hL
 have hset : (L ++ [some (⟨e, l, []⟩ : Box)]).set i (some { bx with es := bx.es.set k e1 }) = L.set i (some { bx with es := bx.es.set k e1 }) ++ [some ⟨e, l, []⟩] := by rw [List.set_append_left _ _ hi]
 rw [← hset] at h
 have cases_ : ∀ j b', ((L ++ [some (⟨e, l, []⟩ : Box)]).set i (some { bx with es := bx.es.set k e1 }))[j]? = some (some b') → (j ≠ i ∧ (L ++ [some (⟨e, l, []⟩ : Box)])[j]? = some (some b')) ∨ (j = i ∧ b' = { bx with es := bx.es.set k e1 }) := fun j b' hj => by
  rw [List.getElem?_set] at hj
  by_cases e' : i = j
  ·subst e'
   rw [if_pos rfl, if_pos (by simp; omega)] at hj
   exact .inr ⟨rfl, by injection hj with hj; injection hj with hj; exact hj.symm⟩
  ·rw [if_neg e'] at hj
   exact .inl ⟨fun h => e' h.symm, hj⟩
 have live : ∀ j b', ((L ++ [some (⟨e, l, []⟩ : Box)]).set i (some { bx with es := bx.es.set k e1 }))[j]? = some (some b') → ∃ b'', (L ++ [some (⟨e, l, []⟩ : Box)])[j]? = some (some b'') := fun j b' hj => by
  rcases cases_ j b' hj with ⟨_, h⟩ | ⟨rfl, _⟩
  ·exact ⟨_, h⟩
  ·exact ⟨bx, by rw [List.getElem?_append_left hi]; exact hL⟩
 refine ⟨f, _, setβ β L.length none, S, ⟨hr'.df, hr'.sz, hr'.fr, ⟨?_, ?_, ?_, hr'.hp.fz, ?_, ?_⟩, ?_, hr'.fz, hr'.s0, hr'.pres⟩, h⟩
 ·intro j b' hj
  rcases cases_ j b' hj with ⟨_, hj'⟩ | ⟨rfl, rfl⟩
  ·exact hr'.hp.bx j b' hj'
  ·obtain ⟨q0, q⟩ := hr.hp.bx j bx hL
   refine ⟨by simpa using q0, ?_⟩
   rcases q with ⟨q1, q2⟩ | ⟨b, Cp, cur, ds, q1, q2, q3, q4, q5, q6⟩
   ·rw [q2] at he; simp at he
   ·obtain ⟨d1, dm, d3, r1, r2, r3, r4, r5⟩ := VCs_get bx.es _ ds k bx.l e0 (VCs_later lat _ _ _ q5) (get_rep _ (lt_of_get he)) he
    obtain ⟨c1, c2, c3, rfl, s2, s3, s4, s5⟩ := VC_at p e0 bx.l dm o l' nilsl r4 r3 hp
    have hc2 : c2 = [.slice none 0 0] := by
     simp only [VC, DC] at s4
     exact s4.1
    subst hc2
    have hnew := s5 (.ref l L.length 0 0) e1 [.slice none 0 0] hput (by unfold VC; exact .inl ⟨setβ_self _ _ _, rfl, rfl, rfl⟩) (by simp [hl1])
    have := r5 e1 _ hnew r3
    rw [← r1] at this
    exact .inr ⟨b, Cp, cur, ds, by rw [setβ_ne _ _ (by omega)]; exact q1, q2, q3, by simpa using q4, by simpa using this, q6⟩
 ·intro j j' b b1 b2 c c' hj hj' hb hb'
  obtain ⟨y1, h1⟩ := live j b1 hj
  obtain ⟨y2, h2⟩ := live j' b2 hj'
  exact hr'.hp.inj j j' b y1 y2 c c' h1 h2 hb hb'
 ·intro j b1 b c hj hb
  obtain ⟨y1, h1⟩ := live j b1 hj
  exact hr'.hp.own j y1 b c h1 hb
 ·intro j hj
  exact hr'.hp.un j (by simpa using hj)
 ·intro j b1 q hj hq
  rcases cases_ j b1 hj with ⟨_, hj'⟩ | ⟨rfl, rfl⟩
  ·exact hr'.hp.ad j b1 q hj' hq
  ·exact hr'.hp.ad _ bx q (by rw [List.getElem?_append_left hi]; exact hL) hq
 ·intro j b1 b c hj hb
  obtain ⟨y1, h1⟩ := live j b1 hj
  exact hr'.own j y1 b c h1 hb
end
end Go.Eng
set_option linter.unusedVariables false
namespace Go.Eng
section
variable {P : Program} {C : Cx} {n : Nat} {f : Fr} {L : Hp} {Q : AQ} {ops : Array Oper} {qt : List Nat} {rest : List Oper} {dst : Option Tmp} {ty : TypeId} {pos : String} {after : Array Edge}
theorem AL_fcall0 (hT : CT P C) {x : Operand} {args : Array Operand} {ts : Array TypeId} {k : FuncId} {ds rs : List D} (hx : ev f x = .d (.fn k [])) (hc : Callable P k) (hp : PCall P k ds (· = rs)) (ha : args.toList.map (ev f) = ds.map V.d)
 (hd : dstOk n dst = true) (h : AL P C n ops rest Q (updo f dst (retV rs)) L) : AL P C n ops (⟨dst, callV x args ts, ty, pos, after, none⟩ :: rest) Q f L :=
 AL_fcall hT (caps := []) hx rfl hc (by rw [List.append_nil]; exact hp) ha hd h
theorem AL_pcall0 (hT : CT P C) {x : Operand} {args : Array Operand} {ts : Array TypeId} {k : FuncId} {ds : List D} {post : List D → Prop} (hx : ev f x = .d (.fn k [])) (hc : Callable P k) (hp : PCall P k ds post) (ha : args.toList.map (ev f) = ds.map V.d)
 (hd : dstOk n dst = true) (h : ∀ rs, post rs → AL P C n ops rest Q (updo f dst (retV rs)) L) : AL P C n ops (⟨dst, callV x args ts, ty, pos, after, none⟩ :: rest) Q f L :=
 AL_pcall hT (caps := []) hx rfl hc (by rw [List.append_nil]; exact hp) ha hd h
theorem upd_same {s : Nat} {v : V} (h : f s = v) : upd f s v = f := by
 funext i
 by_cases e : i = s
 ·subst e; rw [upd_self, h]
 ·rw [upd_ne _ _ _ _ e]
theorem AL_bool (s : Nat) {b : Bool} (hs : f s = bl b) (ht : b = true → AL P C n ops rest Q (upd f s (bl true)) L) (hf : b = false → AL P C n ops rest Q (upd f s (bl false)) L) : AL P C n ops rest Q f L := by
 cases b with
 | true => have := ht rfl; rwa [upd_same hs] at this
 | false => have := hf rfl; rwa [upd_same hs] at this
theorem Wk.then {Z : Fr → Hp → Prop} (h : Wk C n f L (fun f' L' => Wk C n f' L' Z)) : Wk C n f L Z := by
 intro a w β S hr
 obtain ⟨f1, L1, β1, S1, hr1, h1⟩ := h a w β S hr
 exact h1 a w β1 S1 hr1
theorem AC_seqJ {x y : Code} (J : Fr → Hp → Prop) (h1 : AC P C n x (thenQ (fun a w => ∃ f L β S, Rel C n f L a w β S ∧ J f L) Q) f L) (h2 : ∀ f L, J f L → AC P C n y Q f L) : AC P C n (.seq x y) Q f L := by
 refine AC_seq fun K hK => AC_mono h1 fun e a w q => ?_
 cases e with
 | normal =>
   obtain ⟨f', L', β', S', hr, hj⟩ := q
   exact hK C f' L' (h2 f' L' hj) a w β' S' hr
 | _ => exact q
def FS (ks : List Nat) (f : Fr) (ms : List (Nat × V)) : Fr := frOf (ms ++ ks.map fun k => (k, f k))
theorem AC_loopS (ks : List Nat) (St : Type) (mods : St → List (Nat × V)) (Lf : St → Hp) (μ : St → Nat) (Inv : St → Prop) (s0 : St) {c : Code}
 (enter : Wk C n f L (fun f' L' => f' = FS ks f (mods s0) ∧ L' = Lf s0)) (h0 : Inv s0)
 (round : ∀ st, Inv st → AC P C n c (thenQ (fun a w => ∃ f'' L'' β S, Rel C n f'' L'' a w β S ∧ ∃ st', μ st' < μ st ∧ Inv st' ∧ f'' = FS ks f (mods st') ∧ L'' = Lf st') Q) (FS ks f (mods st)) (Lf st)) : AC P C n (.loop c) Q f L := by
 refine AC_loop (fun m f' L' => ∃ st, μ st = m ∧ Inv st ∧ f' = FS ks f (mods st) ∧ L' = Lf st) (μ s0) (enter.mono ?_) ?_
 ·rintro f' L' ⟨rfl, rfl⟩
  exact ⟨s0, rfl, h0, rfl, rfl⟩
 ·rintro m f' L' ⟨st, rfl, hI, rfl, rfl⟩
  refine AC_mono (round st hI) fun e a w q => ?_
  cases e with
  | normal =>
    obtain ⟨f, L, β, S, hr, st', h1, h2, h3, h4⟩ := q
    exact ⟨f, L, β, S, hr, μ st', h1, st', rfl, h2, h3, h4⟩
  | _ => exact q
theorem AC_loopX (St : Type) (mods : St → List (Nat × V)) (Lf : St → Hp) (μ : St → Nat) (Inv : Cx → St → Prop) (ks : List Nat) {c : Code}
 (enter : Fin C n (Held n fun C' f' L' => ∃ st, Inv C' st ∧ f' = FS ks f (mods st) ∧ L' = Lf st) f L)
 (round : ∀ C' st, Inv C' st → AC P C' n c (thenQ (Held n fun C'' f'' L'' => ∃ st', μ st' < μ st ∧ Inv C'' st' ∧ f'' = FS ks f (mods st') ∧ L'' = Lf st') Q) (FS ks f (mods st)) (Lf st)) : AC P C n (.loop c) Q f L := by
 refine AC_loopC (fun m C' f' L' => ∃ st, μ st = m ∧ Inv C' st ∧ f' = FS ks f (mods st) ∧ L' = Lf st) ?_ ?_
 ·intro a w β S hr
  obtain ⟨C', f', L', β', S', hr', st, h1, h2, h3⟩ := enter a w β S hr
  exact ⟨μ st, C', f', L', β', S', hr', st, rfl, h1, h2, h3⟩
 ·rintro m C' f' L' ⟨st, rfl, hI, rfl, rfl⟩
  refine AC_mono (round C' st hI) fun e a w q => ?_
  cases e with
  | normal =>
    obtain ⟨C'', f, L, β, S, hr, st', h1, h2, h3, h4⟩ := q
    exact ⟨μ st', h1, C'', f, L, β, S, hr, st', rfl, h2, h3, h4⟩
  | _ => exact q
theorem enterS {ks : List Nat} {g : Fr} {ms : List (Nat × V)} {L2 : Hp} (src : List (Option Nat)) (hlen : src.length = L2.length) (hnd : nodupS src = true) (hb : BxTo L src 0 L2) (hs : SlTo L src f (ms ++ ks.map fun k => (k, g k))) :
 Wk C n f L (fun f' L' => f' = FS ks g ms ∧ L' = L2) := Wk_to src _ L2 hlen hnd hb hs ⟨rfl, rfl⟩
theorem fin_wk {Z : Fr → Hp → Prop} (h : Wk C n f L Z) : Fin C n (fun a w => ∃ f' L' β S, Rel C n f' L' a w β S ∧ Z f' L') f L := fun a w β S hr =>
 let ⟨f', L', β', S', hr', hz⟩ := h a w β S hr; ⟨f', L', β', S', hr', hz⟩
theorem closeS {ks : List Nat} {g : Fr} {St : Type} {mods : St → List (Nat × V)} {Lf : St → Hp} {μ : St → Nat} {Inv : St → Prop} {st : St} (st' : St) (src : List (Option Nat)) (hlen : src.length = (Lf st').length) (hnd : nodupS src = true) (hμ : μ st' < μ st) (hI : Inv st')
 (hb : BxTo L src 0 (Lf st')) (hs : SlTo L src f (mods st' ++ ks.map fun k => (k, g k))) : Fin C n (fun a w => ∃ f'' L'' β S, Rel C n f'' L'' a w β S ∧ ∃ st', μ st' < μ st ∧ Inv st' ∧ f'' = FS ks g (mods st') ∧ L'' = Lf st') f L :=
 fin_wk (Wk_to src _ (Lf st') hlen hnd hb hs ⟨st', hμ, hI, rfl, rfl⟩)
theorem Vw_int {src : List (Option Nat)} {k : IntKind} {a b : Int} (h : a = b) : Vw L src (.d (.c (.int k a))) (.d (.c (.int k b))) := by subst h; exact .rd .d
theorem joinS {sl : List (Nat × V)} {L2 : Hp} (src : List (Option Nat)) (hlen : src.length = L2.length) (hnd : nodupS src = true) (hb : BxTo L src 0 L2) (hs : SlTo L src f sl) : Fin C n (fun a w => ∃ f' L' β S, Rel C n f' L' a w β S ∧ f' = frOf sl ∧ L' = L2) f L := fin_wk (Wk_to src _ L2 hlen hnd hb hs ⟨rfl, rfl⟩)
theorem SlTo_nil {src : List (Option Nat)} : SlTo L src f [] := trivial
theorem SlTo_cons {src : List (Option Nat)} {i : Nat} {v : V} {r : List (Nat × V)} (h : Vw L src (f i) v) (k : SlTo L src f r) : SlTo L src f ((i, v) :: r) := ⟨h, k⟩
theorem BxTo_nil {src : List (Option Nat)} {j : Nat} : BxTo L src j [] := trivial
theorem BxTo_some {src : List (Option Nat)} {j i : Nat} {b1 b2 : Box} {r : Hp} (h1 : srcOf src j = some i) (h2 : L[i]? = some (some b1)) (h3 : b1.ty = b2.ty) (h4 : b1.l = b2.l) (h5 : VwL L src b1.es b2.es) (h : BxTo L src (j + 1) r) : BxTo L src j (some b2 :: r) :=
 ⟨⟨i, b1, h1, h2, h3, h4, h5⟩, h⟩
theorem ret_ok {fn : Func} {post : List D → Prop} {vs : List V} {ds : List D} (hdm : ∀ b, ¬ C.Dm b) (h1 : RetV P f L fn.results.toList vs) (h2 : ReadsL L (fun _ => True) vs ds) (h3 : post ds) : Fin C n (retQ fn P C.w0 C.S0 post .ret) f L := fun a w β S hr => ⟨rfl, ret_fin (CExt.refl C) hdm h1 h2 h3 a w β S hr⟩
end
mutual
def cellsD : D → Option (List Value)
 | .c x => bif Value.scalar x then some [x] else none
 | .agg fs ds => cellsDs fs ds
 | _ => none
def cellsDs : List Lay → List D → Option (List Value)
 | [], [] => some []
 | f :: fs, d :: ds => match cellsD d, cellsDs fs ds with
   | some a, some b => bif Nat.beq a.length f.len then some (a ++ b) else none
   | _, _ => none
 | _, _ => none
end
mutual
theorem DC_cells {S : Nat → Prop} {w : World} : ∀ (x : D) (cs : List Value), cellsD x = some cs → DC S w x cs
 | .c x, cs, h => by
   simp only [cellsD] at h
   cases hs : Value.scalar x with
   | true => rw [hs] at h; simp only [cond_true, Option.some.injEq] at h; subst h; unfold DC; exact ⟨rfl, hs⟩
   | false => rw [hs] at h; cases h
 | .agg fs ds, cs, h => by
   simp only [cellsD] at h
   unfold DC
   exact DCs_cells fs ds cs h
 | .sl _ _, cs, h => by simp [cellsD] at h
 | .rp _ _ _, cs, h => by simp [cellsD] at h
 | .fn _ _, cs, h => by simp [cellsD] at h
theorem DCs_cells {S : Nat → Prop} {w : World} : ∀ (fs : List Lay) (ds : List D) (cs : List Value), cellsDs fs ds = some cs → DCs S w fs ds cs
 | [], [], cs, h => by simp only [cellsDs, Option.some.injEq] at h; subst h; unfold DCs; exact ⟨rfl, rfl⟩
 | f :: fs, d :: ds, cs, h => by
   simp only [cellsDs] at h
   split at h
   ·rename_i a b e1 e2
    cases hl : Nat.beq a.length f.len with
    | true =>
      rw [hl] at h
      simp only [cond_true, Option.some.injEq] at h
      subst h
      unfold DCs
      exact ⟨f, fs, a, b, rfl, rfl, Nat.eq_of_beq_eq_true hl, DC_cells d a e1, DCs_cells fs ds b e2⟩
    | false => rw [hl] at h; cases h
   ·cases h
 | [], _ :: _, cs, h => by simp [cellsDs] at h
 | _ :: _, [], cs, h => by simp [cellsDs] at h
end
theorem VC_cells {β : Beta} {S : Nat → Prop} {w : World} {x : D} {cs : List Value} (h : cellsD x = some cs) : VC β S w (.d x) cs := by unfold VC; exact DC_cells x cs h
@[simp] theorem V_isAgg_d (x : D) : (V.d x).isAgg = x.isAgg := rfl
@[simp] theorem V_len_d (x : D) : (V.d x).len? = x.len? := rfl
end Go.Eng
set_option linter.unusedVariables false
set_option linter.unusedSimpArgs false
namespace Go.Eng
def effOp : Op → Bool
 | .store .. | .box .. | .makeSlice .. | .mapUpdate .. | .insert .. | .makeMap .. | .entryStore .. | .mapEntry .. => true
 | .call { callee := .builtin .append, .. } | .call { callee := .builtin .copy, .. } | .call { callee := .builtin .clear, .. } | .call { callee := .builtin .delete, .. } => true
 | _ => false
def readsHp : Op → Bool
 | .load .. | .lookup .. | .next .. | .range .. | .call .. => true
 | op => effOp op
inductive Reach (ops : Array Oper) : Nat → Nat → Prop
 | one {i : Nat} {o : Oper} {e : Edge} : ops[i]? = some o → e ∈ o.after → Region.binds .any e = true → Reach ops e.on i
 | trans {i j k : Nat} : Reach ops i j → Reach ops j k → Reach ops i k
def lookM (t : List (Nat × Nat)) (i : Nat) : Nat :=
 match t with
 | [] => 0
 | (j, m) :: r => if j = i then m else lookM r i
def maskOf (t : List (Nat × Nat)) (es : List Edge) : Nat :=
 match es with
 | [] => 0
 | e :: r => (if Region.binds .any e then (1 <<< e.on) ||| lookM t e.on else 0) ||| maskOf t r
def masks (ops : Array Oper) : List Nat → List (Nat × Nat) → List (Nat × Nat)
 | [], t => t
 | i :: r, t => masks ops r ((i, match ops[i]? with | some o => maskOf t o.after.toList | none => 0) :: t)
def quiet (qt : List Nat) (o : Oper) : Bool := !effOp o.op && (match o.dst with | some s => qt.contains s | none => false)
section
variable (P : Program) (C : Cx) (n : Nat) (ops : Array Oper) (qt : List Nat)
def runOr (o : Oper) (a : Act) (w : World) (K : Act → World → Prop) (Qc : Exit → Act → World → Prop) : Prop :=
 if Region.wanted o (yielded ops a.tmps) then o.wp P a w K Qc else K (a.put o.dst undef) w
def StA (o : Oper) (f : Fr) (L : Hp) (v : V) : Prop :=
 ∀ C, CT P C → ∀ f', (∀ s ∈ o.looksAt ops, f' s = f s) → ∀ L' : Hp, (readsHp o.op = true → quiet qt o = false → L' = L) → ∀ a w β S, Rel C n f' L' a w β S → ∀ K Qc, (∀ a' w' β' S', Rel C n (updo f' o.dst v) L' a' w' β' S' → K a' w') → runOr P ops o a w K Qc
def StB (o : Oper) (f : Fr) (L : Hp) (v : V) (L2 : Hp) : Prop :=
 ∀ C, CT P C → ∀ f', (∀ s ∈ o.looksAt ops, f' s = f s) → ∀ a w β S, Rel C n f' L a w β S → ∀ K Qc, (∀ a' w' β' S', Rel C n (updo f' o.dst v) L2 a' w' β' S' → K a' w') → runOr P ops o a w K Qc
def StE (o : Oper) (f : Fr) (Z : Cx → V → Prop) : Prop :=
 ∀ f', (∀ s ∈ o.looksAt ops, f' s = f s) → ∀ L' a w β S, Rel C n f' L' a w β S → ∀ K Qc, (∀ C' v a' w' β' S', Z C' v → Rel C' n (updo f' o.dst v) L' a' w' β' S' → K a' w') → runOr P ops o a w K Qc
def lastOp (i : Nat) (o : Oper) : Bool := (List.range ops.size).all fun j => j == i || o.after.toList.any fun e => Region.binds .any e && e.on == j
def tailOk (σ : List Nat) : List Nat → Bool
 | [] => true
 | i :: r => (match ops[i]? with
   | some o => ((List.range ops.size).all fun j => (i :: r).contains j || (lookM (masks ops σ []) i).testBit j) && (o.after.toList.all fun e => !Region.binds .any e || (!(i :: r).contains e.on && decide (e.on < ops.size)))
   | none => false) && tailOk σ r
def tailW (σ : List Nat) : List Nat → Bool
 | [] => true
 | i :: r => (match ops[i]? with
   | some o => o.after.toList.all fun e => !Region.binds .any e || (!(i :: r).contains e.on && decide (e.on < ops.size))
   | none => false) && tailOk ops σ r
def tail2 (σ : List Nat) (F i : Nat) (r : List Nat) : Bool :=
 tailW ops σ (i :: r) && tailW ops σ (F :: r) && ((List.range ops.size).all fun j => (i :: r).contains j || j == F || (lookM (masks ops σ []) i).testBit j)
end
theorem tailW_of {ops : Array Oper} {σ : List Nat} : ∀ {r : List Nat}, tailOk ops σ r = true → tailW ops σ r = true
 | [], _ => rfl
 | i :: r, h => by
   simp only [tailOk, tailW, Bool.and_eq_true] at h ⊢
   refine ⟨?_, h.2⟩
   have h1 := h.1
   split at h1
   ·simp only [Bool.and_eq_true] at h1; exact h1.2
   ·cases h1
section
variable (P : Program) (n : Nat) (ops : Array Oper) (qt : List Nat)
inductive DTi (Q : AQ) : Cx → List Nat → Fr → Hp → Prop
 | nil {C : Cx} {f : Fr} {L : Hp} : Fin C n (Q .normal) f L → DTi Q C [] f L
 | a {C : Cx} {i : Nat} {o : Oper} {v : V} {r : List Nat} {f : Fr} {L : Hp} : ops[i]? = some o → StA P n ops qt o f L v → DTi Q C r (updo f o.dst v) L → DTi Q C (i :: r) f L
 | b {C : Cx} {i : Nat} {o : Oper} {v : V} {r : List Nat} {f : Fr} {L L2 : Hp} : ops[i]? = some o → effOp o.op = true → StB P n ops o f L v L2 → DTi Q C r (updo f o.dst v) L2 → DTi Q C (i :: r) f L
 | e {C : Cx} {i : Nat} {o : Oper} {Z : Cx → V → Prop} {r : List Nat} {f : Fr} {L : Hp} : ops[i]? = some o → effOp o.op = false → StE P C n ops o f Z → (r.all fun j => (lookM (masks ops (i :: r) []) j).testBit i) = true → (∀ C' v, Z C' v → CT P C → CT P C') → (∀ C' v, Z C' v → DTi Q C' r (updo f o.dst v) L) → DTi Q C (i :: r) f L
 | t {C : Cx} {i : Nat} {tl : List Nat} {os : List Oper} {f : Fr} {L : Hp} (σ : List Nat) : tailOk ops σ (i :: tl) = true → (i :: tl).map (fun j => ops[j]?) = os.map some → AL P C n ops os Q f L → DTi Q C (i :: tl) f L
 | t2 {C : Cx} {F a i : Nat} {tl : List Nat} {os os2 : List Oper} {oF oA : Oper} {v : V} {Z : Cx → V → Prop} {f : Fr} {L : Hp} (σ : List Nat) : ops[F]? = some oF → effOp oF.op = false → StA P n ops qt oF f L v →
    ops[a]? = some oA → effOp oA.op = false → StE P C n ops oA (updo f oF.dst v) Z → ((i :: tl).all fun j => (lookM (masks ops (a :: i :: tl) []) j).testBit a) = true → (∀ C' va, Z C' va → CT P C → CT P C') →
    tail2 ops σ F i tl = true → (i :: tl).map (fun j => ops[j]?) = os.map some → (i :: F :: tl).map (fun j => ops[j]?) = os2.map some →
    (∀ C' va, Z C' va → AL P C' n ops os Q (updo (updo f oF.dst v) oA.dst va) L ∧ AL P C' n ops os2 Q (updo f oA.dst va) L) → DTi Q C (F :: a :: i :: tl) f L
abbrev DT (C : Cx) (Q : AQ) (σ : List Nat) (f : Fr) (L : Hp) : Prop := DTi P n ops qt Q C σ f L
end
section
variable (P : Program) (n : Nat) (ops : Array Oper) (qt : List Nat)
structure Ent where
 i : Nat
 o : Oper
 v : V
 Lb : Hp
 La : Hp
 dn : Bool
def runF (f : Fr) : List Ent → Fr
 | [] => f
 | e :: es => runF (updo f e.o.dst e.v) es
def effE (e : Ent) : Bool := effOp e.o.op
def lastL (L : Hp) : List Ent → Hp
 | [] => L
 | e :: es => lastL (if effE e then e.La else L) es
def Chain : List Ent → Fr → Hp → Prop
 | [], _, _ => True
 | e :: es, f, L => ops[e.i]? = some e.o ∧ e.Lb = L ∧ ((effE e = false ∧ e.La = L ∧ (e.dn = true ∨ StA P n ops qt e.o f L e.v)) ∨ (effE e = true ∧ StB P n ops e.o f L e.v e.La)) ∧ Chain es (updo f e.o.dst e.v) e.La
theorem StB_of_A {o : Oper} {f : Fr} {L : Hp} {v : V} (h : StA P n ops qt o f L v) : StB P n ops o f L v L := fun C hT f' hf a w β S hr K Qc hK => h C hT f' hf L (fun _ _ => rfl) a w β S hr K Qc hK
end
def GoodT (ops : Array Oper) (t : List (Nat × Nat)) : Prop := ∀ i j, (lookM t i).testBit j = true → Reach ops j i
theorem testBit_one_shift (k j : Nat) : (1 <<< k).testBit j = decide (j = k) := by
 rw [Nat.shiftLeft_eq, Nat.one_mul, Nat.testBit_two_pow]
 simp [eq_comm]
theorem maskOf_good {ops : Array Oper} {t : List (Nat × Nat)} (ht : GoodT ops t) {i : Nat} {o : Oper} (ho : ops[i]? = some o) : ∀ (es : List Edge), (∀ e ∈ es, e ∈ o.after) → ∀ j, (maskOf t es).testBit j = true → Reach ops j i
 | [], _, j, h => by simp [maskOf] at h
 | e :: r, hs, j, h => by
   simp only [maskOf, Nat.testBit_or, Bool.or_eq_true] at h
   rcases h with h | h
   ·split at h
    ·rename_i hb
     have h1 : Reach ops e.on i := .one ho (hs e (by simp)) hb
     simp only [Nat.testBit_or, Bool.or_eq_true, testBit_one_shift, decide_eq_true_eq] at h
     rcases h with h | h
     ·subst h; exact h1
     ·exact .trans (ht _ _ h) h1
    ·simp at h
   ·exact maskOf_good ht ho r (fun e he => hs e (by simp [he])) j h
theorem masks_good {ops : Array Oper} : ∀ (σ : List Nat) (t : List (Nat × Nat)), GoodT ops t → GoodT ops (masks ops σ t)
 | [], t, h => h
 | i :: r, t, h => by
   refine masks_good r _ ?_
   intro k j hj
   simp only [lookM] at hj
   split at hj
   ·rename_i e
    subst e
    split at hj
    ·rename_i o ho
     exact maskOf_good h ho _ (fun e he => by simpa using he) j hj
    ·simp at hj
   ·exact h k j hj
def clash (ops : Array Oper) (qt : List Nat) (x y : Oper) : Bool :=
 (match x.dst with | some d => (y.looksAt ops).contains d || y.dst == some d | none => false) ||
 (match y.dst with | some d => (x.looksAt ops).contains d | none => false) ||
 (effOp x.op && (readsHp y.op && !quiet qt y)) || (effOp y.op && (readsHp x.op && !quiet qt x))
def pairsOk (ops : Array Oper) (qt : List Nat) (t : List (Nat × Nat)) : List Nat → Bool
 | [] => true
 | i :: r => (r.all fun j => match ops[i]?, ops[j]? with | some x, some y => !clash ops qt x y || (lookM t j).testBit i | _, _ => true) && pairsOk ops qt t r
def edgesOk (ops : Array Oper) : List Nat → List Nat → Bool
 | _, [] => true
 | done, i :: r => (match ops[i]? with | some o => o.after.toList.all fun e => !Region.binds .any e || done.contains e.on | none => false) && edgesOk ops (i :: done) r
def nodupN : List Nat → Bool
 | [] => true
 | i :: r => !r.contains i && nodupN r
def okDraw (ops : Array Oper) (qt : List Nat) (σ : List Nat) : Bool :=
 Nat.ble σ.length ops.size && nodupN σ && (List.range ops.size).all (fun i => σ.contains i) && edgesOk ops [] σ && pairsOk ops qt (masks ops σ []) σ
theorem pairsOk_spec {ops : Array Oper} {qt : List Nat} {t : List (Nat × Nat)} : ∀ {σ : List Nat}, pairsOk ops qt t σ = true → ∀ (p q i j : Nat) (x y : Oper), p < q → σ[p]? = some i → σ[q]? = some j → ops[i]? = some x → ops[j]? = some y → clash ops qt x y = true → (lookM t j).testBit i = true
 | [], _, p, q, i, j, x, y, _, h, _, _, _, _ => by simp at h
 | k :: r, hp, p, q, i, j, x, y, hpq, hi, hj, hx, hy, hc => by
   simp only [pairsOk, Bool.and_eq_true] at hp
   cases q with
   | zero => omega
   | succ q =>
     simp at hj
     cases p with
     | zero =>
       simp at hi
       subst hi
       have := List.all_eq_true.1 hp.1 j (List.mem_of_getElem? hj)
       simpa [hx, hy, hc] using this
     | succ p =>
       simp at hi
       exact pairsOk_spec hp.2 p q i j x y (by omega) hi hj hx hy hc
theorem edgesOk_spec {ops : Array Oper} : ∀ {σ done : List Nat}, edgesOk ops done σ = true → ∀ (p i : Nat) (o : Oper), σ[p]? = some i → ops[i]? = some o → ∀ e ∈ o.after, Region.binds .any e = true → e.on ∈ done ∨ ∃ q : Nat, q < p ∧ σ[q]? = some e.on
 | [], done, _, p, i, o, h, _, _, _, _ => by simp at h
 | k :: r, done, hp, p, i, o, hi, ho, e, he, hb => by
   simp only [edgesOk, Bool.and_eq_true] at hp
   cases p with
   | zero =>
     simp at hi
     subst hi
     rw [ho] at hp
     have := List.all_eq_true.1 hp.1 e (by simpa using he)
     simp [hb] at this
     exact .inl this
   | succ p =>
     simp at hi
     rcases edgesOk_spec hp.2 p i o hi ho e he hb with h | ⟨q, hq, h⟩
     ·rcases List.mem_cons.1 h with h | h
      ·exact .inr ⟨0, by omega, by simp [h]⟩
      ·exact .inl h
     ·exact .inr ⟨q + 1, by omega, by simpa using h⟩
theorem nodupN_spec : ∀ {σ : List Nat}, nodupN σ = true → ∀ (p q i : Nat), σ[p]? = some i → σ[q]? = some i → p = q
 | [], _, p, q, i, h, _ => by simp at h
 | k :: r, hp, p, q, i, h, h' => by
   simp only [nodupN, Bool.and_eq_true] at hp
   have hne : ∀ q, r[q]? = some k → False := fun q hq => by
    have := List.mem_of_getElem? hq
    simp [this] at hp
   cases p with
   | zero =>
     cases q with
     | zero => rfl
     | succ q => simp at h h'; subst h; exact (hne q h').elim
   | succ p =>
     cases q with
     | zero => simp at h h'; subst h'; exact (hne p h).elim
     | succ q => simp at h h'; rw [nodupN_spec hp.2 p q i h h']
theorem split_at {A : Type} {es : List A} {p : Nat} {e : A} (hp : es[p]? = some e) : ∃ a b, es = a ++ e :: b ∧ a.length = p := by
 have hlt := lt_of_get hp
 rw [List.getElem?_eq_getElem hlt] at hp
 injection hp with hp
 refine ⟨es.take p, es.drop (p + 1), ?_, by simp; omega⟩
 rw [← hp, ← List.drop_eq_getElem_cons hlt, List.take_append_drop]
theorem runF_app (f : Fr) : ∀ (a b : List Ent), runF f (a ++ b) = runF (runF f a) b
 | [], b => rfl
 | e :: a, b => runF_app _ a b
theorem lastL_app (L : Hp) : ∀ (a b : List Ent), lastL L (a ++ b) = lastL (lastL L a) b
 | [], b => rfl
 | e :: a, b => lastL_app _ a b
def hasDst (s : Nat) (e : Ent) : Bool := e.o.dst == some s
theorem runF_at : ∀ (es : List Ent) (f g : Fr) (s : Nat), f s = g s → runF f es s = runF g (es.filter (hasDst s)) s
 | [], f, g, s, h => h
 | e :: es, f, g, s, h => by
   simp only [runF, List.filter_cons]
   by_cases hd : hasDst s e = true
   ·rw [if_pos hd]
    simp only [runF]
    have he : e.o.dst = some s := by simpa [hasDst] using hd
    exact runF_at es _ _ s (by simp only [he, updo, upd_self])
   ·rw [if_neg hd]
    refine runF_at es _ _ s ?_
    cases h2 : e.o.dst with
    | none => exact h
    | some d =>
      have hne : s ≠ d := fun e' => hd (by simp [hasDst, h2, e'])
      simp only [updo, upd_ne _ _ _ _ hne]
      exact h
theorem lastL_at : ∀ (es : List Ent) (L : Hp), lastL L es = lastL L (es.filter effE)
 | [], L => rfl
 | e :: es, L => by
   simp only [lastL, List.filter_cons]
   by_cases hd : effE e = true
   ·rw [if_pos hd, if_pos hd]; simp only [lastL, hd, if_true]; exact lastL_at es _
   ·rw [if_neg hd, if_neg hd]; exact lastL_at es _
section
variable {P : Program} {C : Cx} {n : Nat} {ops : Array Oper} {qt : List Nat} {Q : AQ}
theorem Chain_at : ∀ (a : List Ent) (e : Ent) (b : List Ent) (f : Fr) (L : Hp), Chain P n ops qt (a ++ e :: b) f L →
 ops[e.i]? = some e.o ∧ e.Lb = lastL L a ∧ ((effE e = false ∧ e.La = e.Lb ∧ (e.dn = true ∨ StA P n ops qt e.o (runF f a) e.Lb e.v)) ∨ (effE e = true ∧ StB P n ops e.o (runF f a) e.Lb e.v e.La))
 | [], e, b, f, L, h => by
   obtain ⟨h1, h2, h3, _⟩ := h
   subst h2
   exact ⟨h1, rfl, h3⟩
 | x :: a, e, b, f, L, h => by
   obtain ⟨h1, h2, h3, h4⟩ := h
   have := Chain_at a e b _ _ h4
   have hL : x.La = (if effE x then x.La else L) := by
    rcases h3 with ⟨h5, h6, _⟩ | ⟨h5, _⟩
    ·rw [h5, h6]; rfl
    ·rw [h5]; rfl
   simp only [lastL, runF]
   rw [← hL]
   exact this
def Closed (ops : Array Oper) (listed : Array Bool) : Prop := ∀ i o, listed.getD i false = true → ops[i]? = some o → ∀ e ∈ o.after, Region.binds .any e = true → listed.getD e.on false = true
theorem closed_reach {listed : Array Bool} (hc : Closed ops listed) {j i : Nat} (h : Reach ops j i) : listed.getD i false = true → listed.getD j false = true := by
 induction h with
 | one ho he hb => exact fun hl => hc _ _ hl ho _ he hb
 | trans _ _ ih1 ih2 => exact fun hl => ih1 (ih2 hl)
theorem ready_reach {listed : Array Bool} (hc : Closed ops listed) {j i : Nat} (h : Reach ops j i) : (∀ o, ops[i]? = some o → ∀ e ∈ o.after, Region.binds .any e = true → listed.getD e.on false = true) → listed.getD j false = true := by
 induction h with
 | one ho he hb => exact fun hr => hr _ ho _ he hb
 | trans h1 _ _ ih2 => exact fun hr => closed_reach hc h1 (ih2 hr)
def isL (listed : Array Bool) (e : Ent) : Bool := listed.getD e.i false
theorem filter_split (X : Ent → Bool) (listed : Array Bool) (a : List Ent) (e : Ent) (b : List Ent) (he : isL listed e = false) (ha : ∀ x ∈ a, X x = true → isL listed x = true) (hb : ∀ x ∈ b, X x = true → isL listed x = false) :
 ((a ++ e :: b).filter (isL listed)).filter X = a.filter X := by
 have h1 : (a.filter (isL listed)).filter X = a.filter X := by
  rw [List.filter_filter]
  refine List.filter_congr fun x hx => ?_
  cases h : X x with
  | false => simp
  | true => simp [ha x hx h]
 have h2 : (b.filter (isL listed)).filter X = [] := by
  rw [List.filter_filter, List.filter_eq_nil_iff]
  intro x hx h
  simp only [Bool.and_eq_true] at h
  rw [hb x hx h.1] at h
  cases h.2
 rw [List.filter_append, List.filter_append, h1, List.filter_cons, if_neg (by simp [he]), h2, List.append_nil]
theorem edgesOk_some {ops : Array Oper} : ∀ {σ done : List Nat}, edgesOk ops done σ = true → ∀ i ∈ σ, ∃ o, ops[i]? = some o
 | [], done, _, i, h => by cases h
 | k :: r, done, hp, i, h => by
   simp only [edgesOk, Bool.and_eq_true] at hp
   rcases List.mem_cons.1 h with rfl | h
   ·cases ho : ops[i]? with
    | some o => exact ⟨o, rfl⟩
    | none => rw [ho] at hp; exact absurd hp.1 (by simp)
   ·exact edgesOk_some hp.2 i h
theorem filter_le {p q : Nat → Bool} (h : ∀ k, q k = true → p k = true) : ∀ (l : List Nat), (l.filter q).length ≤ (l.filter p).length
 | [] => Nat.le_refl _
 | k :: l => by
   have := filter_le h l
   rw [List.filter_cons, List.filter_cons]
   cases hq : q k with
   | true => rw [if_pos rfl, if_pos (h k hq)]; simpa using this
   | false =>
     rw [if_neg (by simp)]
     split
     ·simp; omega
     ·exact this
theorem filter_lt {p q : Nat → Bool} (h : ∀ k, q k = true → p k = true) {j : Nat} (hp : p j = true) (hq : q j = false) : ∀ {l : List Nat}, j ∈ l → (l.filter q).length < (l.filter p).length
 | [], hj => by cases hj
 | k :: l, hj => by
   rw [List.filter_cons, List.filter_cons]
   by_cases e : j = k
   ·subst e
    have := filter_le h l
    rw [if_neg (by simp [hq]), if_pos hp]
    simp
    omega
   ·have := filter_lt h hp hq (l := l) (by
     rcases List.mem_cons.1 hj with h1 | h1
     ·exact absurd h1 e
     ·exact h1)
    cases hk : q k with
    | true => rw [if_pos rfl, if_pos (h k hk)]; simpa using this
    | false =>
      rw [if_neg (by simp)]
      split
      ·simp; omega
      ·exact this
theorem Chain_snoc : ∀ (es : List Ent) (e : Ent) (f : Fr) (L : Hp), Chain P n ops qt es f L → ops[e.i]? = some e.o → e.Lb = lastL L es → ((effE e = false ∧ e.La = lastL L es ∧ (e.dn = true ∨ StA P n ops qt e.o (runF f es) (lastL L es) e.v)) ∨ (effE e = true ∧ StB P n ops e.o (runF f es) (lastL L es) e.v e.La)) → Chain P n ops qt (es ++ [e]) f L
 | [], e, f, L, _, h1, h2, h3 => ⟨h1, h2, h3, trivial⟩
 | x :: es, e, f, L, hc, h1, h2, h3 => by
   obtain ⟨k1, k2, k3, k4⟩ := hc
   have hL : x.La = (if effE x then x.La else L) := by
    rcases k3 with ⟨h5, h6, _⟩ | ⟨h5, _⟩
    ·rw [h5, h6]; rfl
    ·rw [h5]; rfl
   simp only [lastL, runF] at h2 h3
   rw [← hL] at h2 h3
   exact ⟨k1, k2, k3, Chain_snoc es e _ _ k4 h1 h2 h3⟩
def DrawOk (P : Program) (n : Nat) (ops : Array Oper) (Q : AQ) (σ : List Nat) (es : List Ent) (f : Fr) (L : Hp) (C : Cx) : Prop :=
 ∀ (fuel : Nat) (listed : Array Bool) (a : Act) (w : World) (β : Beta) (S : Nat → Prop), listed.size = ops.size → Closed ops listed → (∀ j, listed.getD j false = true → j ∈ es.map (·.i)) → (∀ e ∈ es, e.dn = true → isL listed e = true) →
  (σ.filter fun k => !listed.getD k false).length ≤ fuel → Rel C n (runF f (es.filter (isL listed))) (lastL L (es.filter (isL listed))) a w β S → wpAny P .any ops Q fuel listed a w
theorem nodupN_tail : ∀ (x : List Nat) {y : List Nat}, nodupN (x ++ y) = true → nodupN y = true
 | [], _, h => h
 | _ :: x, _, h => by
   simp only [List.cons_append, nodupN, Bool.and_eq_true] at h
   exact nodupN_tail x h.2
theorem wpOps_at {P : Program} {ops : Array Oper} {Q : AQ} : ∀ (tl : List Nat) (os : List Oper), tl.map (fun j => ops[j]?) = os.map some → wpOps P ops Q tl = wpList P ops Q os
 | [], [], _ => by funext a w; simp [wpOps, wpList]
 | [], _ :: _, h => by simp at h
 | _ :: _, [], h => by simp at h
 | i :: tl, o :: os, h => by
   simp only [List.map_cons, List.cons.injEq] at h
   funext a w
   simp only [wpOps, h.1, wpList, wpOps_at tl os h.2]
theorem tail_behind {ops : Array Oper} {σ : List Nat} {i : Nat} : ∀ (r : List Nat), nodupN (i :: r) = true → tailW ops σ (i :: r) = true → ∀ k ∈ r, Reach ops i k := by
 have key : ∀ (r : List Nat), i ∉ r → i < ops.size → tailOk ops σ r = true → ∀ k ∈ r, Reach ops i k := by
  intro r
  induction r with
  | nil => intro _ _ _ k hk; cases hk
  | cons x r ih =>
    intro hn hi ht k hk
    simp only [tailOk, Bool.and_eq_true] at ht
    rcases List.mem_cons.1 hk with rfl | hk
    ·cases ho : ops[k]? with
     | none => rw [ho] at ht; simp at ht
     | some o =>
       rw [ho] at ht
       simp only [Bool.and_eq_true] at ht
       have h2 := List.all_eq_true.1 ht.1.1 i (by simpa using hi)
       have hc : (k :: r).contains i = false := by cases h : (k :: r).contains i with | false => rfl | true => exact absurd (by simpa using h) hn
       rw [hc] at h2
       simp only [Bool.false_or] at h2
       exact masks_good (ops := ops) σ [] (fun i j h => by simp [lookM] at h) _ _ h2
    ·exact ih (fun h => hn (List.mem_cons_of_mem _ h)) hi ht.2 k hk
 intro r hnd ht
 have hi : i < ops.size := by
  simp only [tailW] at ht
  cases h : ops[i]? with
  | none => rw [h] at ht; simp at ht
  | some o => exact (Array.getElem?_eq_some_iff.1 h).1
 simp only [tailW, Bool.and_eq_true] at ht
 simp only [nodupN, Bool.and_eq_true] at hnd
 exact key r (by simpa using hnd.1) hi ht.2
theorem tail_go {P : Program} {ops : Array Oper} {Q : AQ} {σ : List Nat} : ∀ (tl : List Nat) (fuel : Nat) (listed : Array Bool) (a : Act) (w : World), listed.size = ops.size → Closed ops listed → (∀ k, k < ops.size → listed.getD k false = !tl.contains k) → nodupN tl = true → tailW ops σ tl = true → (∀ k ∈ tl, k < ops.size) → tl.length ≤ fuel → wpOps P ops Q tl a w → wpAny P .any ops Q fuel listed a w
 | [], fuel, listed, a, w, hsz, hcl, hl, hnd, ht, hin, hf, h => by
   have hnil : Region.ready .any ops listed = [] := by
    rw [List.eq_nil_iff_forall_not_mem]
    intro k hk
    obtain ⟨h1, o, ho, _⟩ := mem_ready.1 hk
    have hk2 : k < ops.size := (Array.getElem?_eq_some_iff.1 ho).1
    have := hl k hk2
    rw [Array.getD_eq_getD_getElem?, Array.getElem?_eq_getElem (by omega)] at this h1
    simp at this h1
    rw [this] at h1
    cases h1
   have hq : Q .normal a w := by simpa [wpOps] using h
   cases fuel with
   | zero => exact ⟨hnil, hq⟩
   | succ fuel => exact ⟨fun _ => hq, fun k hk => by rw [hnil] at hk; cases hk⟩
 | i :: r, 0, listed, a, w, hsz, hcl, hl, hnd, ht, hin, hf, h => by simp at hf
 | i :: r, fuel + 1, listed, a, w, hsz, hcl, hl, hnd, ht, hin, hf, h => by
   have hi : i < ops.size := hin i (by simp)
   obtain ⟨o, ho⟩ : ∃ o, ops[i]? = some o := ⟨_, Array.getElem?_eq_getElem hi⟩
   have ht0 := ht
   simp only [tailW, ho, Bool.and_eq_true] at ht
   have hnd0 := hnd
   simp only [nodupN, Bool.and_eq_true] at hnd
   have hir : i ∉ r := by simpa using hnd.1
   have hli : listed.getD i true = false := by
    have := hl i hi
    rw [Array.getD_eq_getD_getElem?, Array.getElem?_eq_getElem (by omega)] at this ⊢
    simpa using this
   refine ⟨fun hn => ?_, fun k hk => ?_⟩
   ·exfalso
    have : i ∈ Region.ready .any ops listed := by
     rw [mem_ready]
     refine ⟨hli, o, ho, fun e he hb => ?_⟩
     have h2 := List.all_eq_true.1 ht.1 e (by simpa using he)
     rw [hb] at h2
     simp only [Bool.not_true, Bool.false_or, Bool.and_eq_true, Bool.not_eq_true', decide_eq_true_eq] at h2
     rw [hl e.on h2.2, h2.1]; rfl
    rw [hn] at this
    cases this
   ·obtain ⟨h1, o', ho', hr'⟩ := mem_ready.1 hk
    have hk2 : k < ops.size := (Array.getElem?_eq_some_iff.1 ho').1
    have hkl : listed.getD k false = false := by
     rw [Array.getD_eq_getD_getElem?, Array.getElem?_eq_getElem (by omega)] at h1 ⊢
     simpa using h1
    have hkm : k ∈ i :: r := by
     have h5 := hl k hk2
     rw [hkl] at h5
     have h6 : (i :: r).contains k = true := by cases h : (i :: r).contains k with | true => rfl | false => rw [h] at h5; cases h5
     simpa only [List.contains_eq_mem, decide_eq_true_eq] using h6
    have hki : k = i := by
     rcases List.mem_cons.1 hkm with h | h
     ·exact h
     ·exfalso
      have h3 := ready_reach hcl (tail_behind r hnd0 ht0 k h) (fun o9 ho9 e' he' hb' => by rw [ho'] at ho9; injection ho9 with ho9; subst ho9; exact hr' e' he' hb')
      rw [hl i hi] at h3
      simp at h3
    subst hki
    rw [wpOps_cons] at h
    refine wpOp_mono (fun a' w' hq => ?_) h
    refine tail_go r fuel (listed.setIfInBounds k true) a' w' (by simpa using hsz) ?_ (fun j hj => ?_) hnd.2 (tailW_of ht.2) (fun j hj => hin j (List.mem_cons_of_mem _ hj)) (by simp at hf; omega) hq
    ·intro j oj hj hoj ed hed hb
     have hset : ∀ x, (listed.setIfInBounds k true).getD x false = (listed.getD x false || x == k) := by
      intro x
      simp only [Array.getD_eq_getD_getElem?, Array.getElem?_setIfInBounds]
      by_cases hx : k = x
      ·subst hx; simp [show k < listed.size by omega]
      ·have : ¬ x = k := fun h => hx h.symm
       rw [if_neg hx]; simp [this]
     rw [hset]
     by_cases hjk : j = k
     ·subst hjk
      rw [ho'] at hoj
      injection hoj with hoj
      subst hoj
      simp [hr' ed hed hb]
     ·have : listed.getD j false = true := by
       rw [hset] at hj
       simpa [hjk] using hj
      simp [hcl j oj this hoj ed hed hb]
    rw [Array.getD_eq_getD_getElem?, Array.getElem?_setIfInBounds]
    by_cases hkj : k = j
    ·subst hkj
     have : r.contains k = false := by cases h : r.contains k with | false => rfl | true => exact absurd (by simpa using h) hir
     rw [if_pos rfl, if_pos (by omega), this]; rfl
    ·rw [if_neg hkj]
     have := hl j hj
     rw [Array.getD_eq_getD_getElem?] at this
     rw [this]
     have hjk : (j == k) = false := by simpa using fun h : j = k => hkj h.symm
     rw [List.contains_cons, hjk]; rfl
theorem nodupN_len : ∀ (tl l : List Nat), nodupN tl = true → (∀ k ∈ tl, k ∈ l) → tl.length ≤ l.length
 | [], _, _, _ => Nat.zero_le _
 | k :: r, l, hn, hs => by
   simp only [nodupN, Bool.and_eq_true] at hn
   have hk : k ∈ l := hs k (by simp)
   have hkr : k ∉ r := by simpa using hn.1
   have h1 := nodupN_len r (l.erase k) hn.2 fun x hx => (List.mem_erase_of_ne (fun e : x = k => hkr (by rw [← e]; exact hx))).2 (hs x (List.mem_cons_of_mem _ hx))
   have h2 := List.length_erase_of_mem hk
   have h3 := List.length_pos_of_mem hk
   simp only [List.length_cons]; omega
theorem draw_main (hT : CT P C) {f : Fr} {L : Hp} {es : List Ent} {σ σ2 : List Nat} (hσ : σ = es.map (·.i) ++ σ2) (hch : Chain P n ops qt es f L) (hnd : nodupN σ = true) (hcov : ((List.range ops.size).all fun i => σ.contains i) = true) (hed : edgesOk ops [] σ = true) (hpr : pairsOk ops qt (masks ops σ []) σ = true)
 (H : (σ2 = [] ∧ Fin C n (Q .normal) (runF f es) (lastL L es)) ∨ (∃ i r o Z, σ2 = i :: r ∧ ops[i]? = some o ∧ effOp o.op = false ∧ StE P C n ops o (runF f es) Z ∧ (∀ j ∈ r, Reach ops i j) ∧ ∀ C' v, Z C' v → DrawOk P n ops Q σ (es ++ [⟨i, o, v, lastL L es, lastL L es, true⟩]) f L C') ∨ (∃ i r σt, σ2 = i :: r ∧ tailOk ops σt (i :: r) = true ∧ ∀ a w β S, Rel C n (runF f es) (lastL L es) a w β S → wpOps P ops Q (i :: r) a w) ∨ (∃ es0 eF es1 i r σt, es = es0 ++ eF :: es1 ∧ σ2 = i :: r ∧ tail2 ops σt eF.i i r = true ∧ (∀ a w β S, Rel C n (runF f es) (lastL L es) a w β S → wpOps P ops Q (i :: r) a w) ∧ ∀ a w β S, Rel C n (runF f (es0 ++ es1)) (lastL L (es0 ++ es1)) a w β S → wpOps P ops Q (i :: eF.i :: r) a w)) : DrawOk P n ops Q σ es f L C := by
 have hgood := masks_good (ops := ops) σ [] (fun i j h => by simp [lookM] at h)
 have hidx : ∀ (p : Nat) (e : Ent), es[p]? = some e → σ[p]? = some e.i := fun p e h => by
  rw [hσ, List.getElem?_append_left (by simpa using lt_of_get h), List.getElem?_map, h]; rfl
 have noready : ∀ (listed : Array Bool), listed.size = ops.size → Region.ready .any ops listed = [] → ∀ i ∈ σ, listed.getD i false = true := by
  intro listed hsz hr
  have key : ∀ (p i : Nat), σ[p]? = some i → listed.getD i false = true := by
   intro p
   induction p using Nat.strongRecOn with
   | _ p ih =>
     intro i hp
     cases hl : listed.getD i false with
     | true => rfl
     | false =>
       exfalso
       obtain ⟨o, ho⟩ := edgesOk_some hed i (List.mem_of_getElem? hp)
       have : i ∈ Region.ready .any ops listed := by
        rw [mem_ready]
        refine ⟨?_, o, ho, fun ed hed' hb => ?_⟩
        ·have hi : i < listed.size := by rw [hsz]; exact (Array.getElem?_eq_some_iff.1 ho).1
         rw [Array.getD_eq_getD_getElem?, Array.getElem?_eq_getElem hi] at hl ⊢
         exact hl
        ·rcases edgesOk_spec hed p i o hp ho ed hed' hb with h | ⟨q, hq, h⟩
         ·cases h
         ·exact ih q hq ed.on h
       rw [hr] at this
       cases this
  intro i hi
  obtain ⟨p, hp⟩ := List.getElem?_of_mem hi
  exact key p i hp
 have apart : ∀ i ∈ es.map (·.i), i ∉ σ2 := by
  intro i hi hi2
  obtain ⟨p, hp⟩ := List.getElem?_of_mem hi
  obtain ⟨q, hq⟩ := List.getElem?_of_mem hi2
  have h1 := lt_of_get hp
  have := nodupN_spec hnd p ((es.map (·.i)).length + q) i (by rw [hσ, List.getElem?_append_left h1]; exact hp) (by rw [hσ, List.getElem?_append_right (by omega)]; simpa using hq)
  omega
 have fin : ∀ (listed : Array Bool) (a : Act) (w : World) (β : Beta) (S : Nat → Prop), (∀ j, listed.getD j false = true → j ∈ es.map (·.i)) → (∀ i ∈ σ, listed.getD i false = true) → Rel C n (runF f (es.filter (isL listed))) (lastL L (es.filter (isL listed))) a w β S → Q .normal a w := by
  intro listed a w β S hsub hall hr
  rcases H with ⟨_, hQ⟩ | ⟨i, r, o, Z, h1, _⟩ | ⟨i, r, _, h1, _⟩ | ⟨_, _, _, i, r, _, _, h1, _⟩
  ·rw [List.filter_eq_self.2 fun e he => hall e.i (by rw [hσ]; exact List.mem_append_left _ (List.mem_map.2 ⟨e, he, rfl⟩))] at hr
   exact hQ _ _ β S hr
  ·have := hsub i (hall i (by rw [hσ, h1]; simp))
   exact absurd (by rw [h1]; simp) (apart i this)
  ·have := hsub i (hall i (by rw [hσ, h1]; simp))
   exact absurd (by rw [h1]; simp) (apart i this)
  ·have := hsub i (hall i (by rw [hσ, h1]; simp))
   exact absurd (by rw [h1]; simp) (apart i this)
 have allr : ∀ (listed : Array Bool), listed.size = ops.size → (∀ i ∈ σ, listed.getD i false = true) → Region.ready .any ops listed = [] := by
  intro listed hsz hall
  unfold Region.ready
  rw [List.filter_eq_nil_iff]
  intro i hi hbad
  have hi' : i < ops.size := by simpa using hi
  have hcon := List.all_eq_true.1 hcov i (by simpa using hi')
  have hmem : i ∈ σ := by simpa using hcon
  have := hall i hmem
  have hi2 : i < listed.size := by omega
  simp only [Bool.and_eq_true, Bool.not_eq_true'] at hbad
  rw [Array.getD_eq_getD_getElem?, Array.getElem?_eq_getElem hi2] at this hbad
  simp at this
  simp [this] at hbad
 intro fuel
 induction fuel with
 | zero =>
   intro listed a w β S hsz hcl hsub hdn hcount hr
   have hall : ∀ i ∈ σ, listed.getD i false = true := by
    intro e he
    cases hl : listed.getD e false with
    | true => rfl
    | false =>
      have : e ∈ σ.filter fun k => !listed.getD k false := List.mem_filter.2 ⟨he, by simp [hl]⟩
      have := List.length_pos_of_mem this
      omega
   refine ⟨?_, fin listed a w β S hsub hall hr⟩
   unfold Region.ready
   rw [List.filter_eq_nil_iff]
   intro i hi hbad
   have hi' : i < ops.size := by simpa using hi
   have hcon := List.all_eq_true.1 hcov i (by simpa using hi')
   have hmem : i ∈ σ := by simpa using hcon
   have := hall i hmem
   have hi2 : i < listed.size := by omega
   simp only [Bool.and_eq_true, Bool.not_eq_true'] at hbad
   rw [Array.getD_eq_getD_getElem?, Array.getElem?_eq_getElem hi2] at this hbad
   simp at this
   simp [this] at hbad
 | succ fuel ih =>
   intro listed a w β S hsz hcl hsub hdn hcount hr
   refine ⟨fun hn => fin listed a w β S hsub (noready listed hsz hn) hr, fun i hi => ?_⟩
   obtain ⟨hnl, o, ho, hrdy⟩ := mem_ready.1 hi
   have hilt : i < listed.size := by rw [hsz]; exact (Array.getElem?_eq_some_iff.1 ho).1
   have hnl' : listed.getD i false = false := by
    rw [Array.getD_eq_getD_getElem?, Array.getElem?_eq_getElem hilt] at hnl ⊢
    exact hnl
   have hmemσ : i ∈ σ := by
    have := List.all_eq_true.1 hcov i (by rw [← hsz]; simpa using hilt)
    simpa using this
   let listed' := listed.setIfInBounds i true
   have hset : ∀ k, listed'.getD k false = (listed.getD k false || k == i) := by
    intro k
    simp only [listed', Array.getD_eq_getD_getElem?, Array.getElem?_setIfInBounds]
    by_cases hk : i = k
    ·subst hk; simp [hilt]
    ·have : ¬ k = i := fun h => hk h.symm
     rw [if_neg hk]; simp [this]
   have hcount' : (σ.filter fun x => !listed'.getD x false).length ≤ fuel := by
    have := filter_lt (p := fun k => !listed.getD k false) (q := fun k => !listed'.getD k false) (fun k h => by
     rw [hset] at h
     simp at h ⊢
     exact h.1) (j := i) (by simp [hnl']) (by simp [hset]) hmemσ
    omega
   have hcl' : Closed ops listed' := by
    intro j oj hj hoj ed hed' hb
    rw [hset]
    by_cases hje : j = i
    ·subst hje
     rw [ho] at hoj
     injection hoj with hoj
     subst hoj
     simp [hrdy ed hed' hb]
    ·have : listed.getD j false = true := by
      rw [hset] at hj
      simpa [hje] using hj
     simp [hcl j oj this hoj ed hed' hb]
   have mem_ops : ∀ x ∈ es, ops[x.i]? = some x.o := by
    intro x hx
    obtain ⟨s, t, hst⟩ := List.append_of_mem hx
    have hch2 := hch
    rw [hst] at hch2
    exact (Chain_at s x t f L hch2).1
   rcases Classical.em (∃ i0 r0 σt, σ2 = i0 :: r0 ∧ tailOk ops σt (i0 :: r0) = true ∧ i ∈ i0 :: r0 ∧ ∀ a w β S, Rel C n (runF f es) (lastL L es) a w β S → wpOps P ops Q (i0 :: r0) a w) with ⟨i0, r0, σt, h1, htl, hmem2, hst⟩ | hnt
   ·have hni0 : i0 ∉ es.map (·.i) := fun h => apart i0 h (by rw [h1]; simp)
    have hndt : nodupN (i0 :: r0) = true := nodupN_tail (es.map (·.i)) (by rw [← h1, ← hσ]; exact hnd)
    have hii : i = i0 := by
     rcases List.mem_cons.1 hmem2 with h | h
     ·exact h
     ·exfalso
      have := ready_reach hcl (tail_behind r0 hndt (tailW_of htl) i h) (fun o' ho' e' he' hb' => by rw [ho] at ho'; injection ho' with ho'; subst ho'; exact hrdy e' he' hb')
      exact hni0 (hsub i0 this)
    subst hii
    have hdone : ∀ x ∈ es, isL listed x = true := by
     intro x hx
     have hxi : x.i < ops.size := (Array.getElem?_eq_some_iff.1 (mem_ops x hx)).1
     have hx2 : (i :: r0).contains x.i = false := by
      cases h : (i :: r0).contains x.i with
      | false => rfl
      | true => exact absurd (by rw [h1]; simpa using h) (apart x.i (List.mem_map.2 ⟨x, hx, rfl⟩))
     simp only [tailOk, ho, Bool.and_eq_true] at htl
     have h2 := List.all_eq_true.1 htl.1.1 x.i (by simpa using hxi)
     rw [hx2] at h2
     simp only [Bool.false_or] at h2
     exact ready_reach hcl (masks_good (ops := ops) σt [] (fun i j h => by simp [lookM] at h) _ _ h2) (fun o' ho' e' he' hb' => by rw [ho] at ho'; injection ho' with ho'; subst ho'; exact hrdy e' he' hb')
    rw [List.filter_eq_self.2 hdone] at hr
    have hq := hst a w β S hr
    rw [wpOps_cons] at hq
    refine wpOp_mono (fun a' w' hq' => ?_) hq
    have htl2 : tailOk ops σt r0 = true := by simp only [tailOk, Bool.and_eq_true] at htl; exact htl.2
    have hnd2 : nodupN r0 = true := by simp only [nodupN, Bool.and_eq_true] at hndt; exact hndt.2
    have hir : i ∉ r0 := by simp only [nodupN, Bool.and_eq_true] at hndt; simpa using hndt.1
    refine tail_go r0 fuel listed' a' w' (by simp [listed', hsz]) hcl' (fun k hk => ?_) hnd2 (tailW_of htl2) (fun k hk => ?_) ?_ hq'
    ·rw [hset]
     have hkσ : k ∈ σ := by
      have := List.all_eq_true.1 hcov k (by simpa using hk)
      simpa using this
     rw [hσ, h1] at hkσ
     rcases List.mem_append.1 hkσ with h | h
     ·obtain ⟨x, hx, rfl⟩ := List.mem_map.1 h
      have hd := hdone x hx
      simp only [isL] at hd
      have hn : r0.contains x.i = false := by
       cases h2 : r0.contains x.i with
       | false => rfl
       | true => exact absurd (by rw [h1]; exact List.mem_cons_of_mem _ (by simpa using h2)) (apart x.i (List.mem_map.2 ⟨x, hx, rfl⟩))
      rw [hd, hn]; rfl
     ·rcases List.mem_cons.1 h with h | h
      ·subst h
       have hn : r0.contains k = false := by cases h2 : r0.contains k with | false => rfl | true => exact absurd (by simpa using h2) hir
       rw [hn]; simp
      ·have hn : r0.contains k = true := by simpa using h
       have hkl : listed.getD k false = false := by
        cases h2 : listed.getD k false with
        | false => rfl
        | true => exact absurd (by rw [h1]; exact List.mem_cons_of_mem _ h) (apart k (hsub k h2))
       have hki : (k == i) = false := by
        cases h2 : k == i with
        | false => rfl
        | true => rw [beq_iff_eq] at h2; exact absurd (h2 ▸ h) hir
       rw [hn, hkl, hki]; rfl
    ·obtain ⟨o', ho'⟩ := edgesOk_some hed k (by rw [hσ, h1]; simp [hk])
     exact (Array.getElem?_eq_some_iff.1 ho').1
    ·have h2 : r0.length ≤ (σ.filter fun x => !listed'.getD x false).length := by
      have h3 : (r0.filter fun x => !listed'.getD x false) = r0 := List.filter_eq_self.2 fun k hk => by
       have hkl : listed.getD k false = false := by
        cases h2 : listed.getD k false with
        | false => rfl
        | true => exact absurd (by rw [h1]; exact List.mem_cons_of_mem _ hk) (apart k (hsub k h2))
       have hki : (k == i) = false := by
        cases h2 : k == i with
        | false => rfl
        | true => rw [beq_iff_eq] at h2; exact absurd (h2 ▸ hk) hir
       rw [hset, hkl, hki]; rfl
      rw [hσ, h1, List.filter_append, List.filter_cons, List.length_append]
      split
      ·rw [List.length_cons, h3]; omega
      ·rw [h3]; omega
     omega
   rcases Classical.em (∃ es0 eF es1 i0 r0 σt, es = es0 ++ eF :: es1 ∧ σ2 = i0 :: r0 ∧ tail2 ops σt eF.i i0 r0 = true ∧ i ∈ i0 :: r0 ∧ (∀ a w β S, Rel C n (runF f es) (lastL L es) a w β S → wpOps P ops Q (i0 :: r0) a w) ∧ ∀ a w β S, Rel C n (runF f (es0 ++ es1)) (lastL L (es0 ++ es1)) a w β S → wpOps P ops Q (i0 :: eF.i :: r0) a w) with ⟨es0, eF, es1, i0, r0, σt, hes, h1, htl, hmem2, hst1, hst2⟩ | hnt2
   ·simp only [tail2, Bool.and_eq_true] at htl
    obtain ⟨⟨htA, htB⟩, htC⟩ := htl
    have hni0 : i0 ∉ es.map (·.i) := fun h => apart i0 h (by rw [h1]; simp)
    have hndt : nodupN (i0 :: r0) = true := nodupN_tail (es.map (·.i)) (by rw [← h1, ← hσ]; exact hnd)
    have hii : i = i0 := by
     rcases List.mem_cons.1 hmem2 with h | h
     ·exact h
     ·exfalso
      have := ready_reach hcl (tail_behind r0 hndt htA i h) (fun o' ho' e' he' hb' => by rw [ho] at ho'; injection ho' with ho'; subst ho'; exact hrdy e' he' hb')
      exact hni0 (hsub i0 this)
    subst hii
    have heF : eF ∈ es := by rw [hes]; simp
    have hFin : eF.i ∉ i :: r0 := fun h => apart eF.i (List.mem_map.2 ⟨eF, heF, rfl⟩) (by rw [h1]; exact h)
    have hndr : nodupN r0 = true := by simp only [nodupN, Bool.and_eq_true] at hndt; exact hndt.2
    have hir : i ∉ r0 := by simp only [nodupN, Bool.and_eq_true] at hndt; simpa using hndt.1
    have h3 : es[es0.length]? = some eF := by rw [hes, List.getElem?_append_right (Nat.le_refl _)]; simp
    have hFs : ∀ x ∈ es0, x.i ≠ eF.i := by
     intro x hx hxF
     obtain ⟨q, hq⟩ := List.getElem?_of_mem hx
     have hql := lt_of_get hq
     have h2 : es[q]? = some x := by rw [hes, List.getElem?_append_left hql]; exact hq
     have := nodupN_spec hnd q es0.length eF.i (by rw [← hxF]; exact hidx q x h2) (hidx _ eF h3)
     omega
    have hFt : ∀ x ∈ es1, x.i ≠ eF.i := by
     intro x hx hxF
     obtain ⟨q, hq⟩ := List.getElem?_of_mem hx
     have h2 : es[es0.length + 1 + q]? = some x := by rw [hes, List.getElem?_append_right (by omega), show es0.length + 1 + q - es0.length = q + 1 by omega]; simpa using hq
     have := nodupN_spec hnd (es0.length + 1 + q) es0.length eF.i (by rw [← hxF]; exact hidx _ x h2) (hidx _ eF h3)
     omega
    have hdone : ∀ x ∈ es, x.i ≠ eF.i → isL listed x = true := by
     intro x hx hxF
     have hxi : x.i < ops.size := (Array.getElem?_eq_some_iff.1 (mem_ops x hx)).1
     have hx2 : (i :: r0).contains x.i = false := by
      cases h : (i :: r0).contains x.i with
      | false => rfl
      | true => exact absurd (by rw [h1]; simpa using h) (apart x.i (List.mem_map.2 ⟨x, hx, rfl⟩))
     have h2 := List.all_eq_true.1 htC x.i (by simpa using hxi)
     have h3 : (x.i == eF.i) = false := by simpa using hxF
     rw [hx2, h3] at h2
     simp only [Bool.false_or] at h2
     exact ready_reach hcl (masks_good (ops := ops) σt [] (fun i j h => by simp [lookM] at h) _ _ h2) (fun o' ho' e' he' hb' => by rw [ho] at ho'; injection ho' with ho'; subst ho'; exact hrdy e' he' hb')
    have hnot : ∀ k ∈ i :: r0, listed.getD k false = false := fun k hk => by
     cases h2 : listed.getD k false with
     | false => rfl
     | true => exact absurd (by rw [h1]; exact hk) (apart k (hsub k h2))
    have hFσ : eF.i ∈ σ := by rw [hσ]; exact List.mem_append_left _ (List.mem_map.2 ⟨eF, heF, rfl⟩)
    suffices go : ∃ tl, nodupN tl = true ∧ tailW ops σt tl = true ∧ (∀ k ∈ tl, k ∈ σ) ∧ i ∉ tl ∧ (∀ k ∈ σ, k ≠ i → listed.getD k false = !tl.contains k) ∧ wpOps P ops Q (i :: tl) a w by
     obtain ⟨tl, g1, g2, g3, g4, g5, hq⟩ := go
     rw [wpOps_cons] at hq
     refine wpOp_mono (fun a' w' hq' => ?_) hq
     have hl' : ∀ k ∈ σ, listed'.getD k false = !tl.contains k := fun k hk => by
      rw [hset]
      by_cases hki : k = i
      ·subst hki
       have : tl.contains k = false := by cases h2 : tl.contains k with | false => rfl | true => exact absurd (by simpa using h2) g4
       rw [this]; simp
      ·have : (k == i) = false := by simpa using hki
       rw [g5 k hk hki, this, Bool.or_false]
     refine tail_go tl fuel listed' a' w' (by simp [listed', hsz]) hcl' (fun k hk => hl' k ?_) g1 g2 (fun k hk => ?_) ?_ hq'
     ·have := List.all_eq_true.1 hcov k (by simpa using hk)
      simpa using this
     ·obtain ⟨o', ho'⟩ := edgesOk_some hed k (g3 k hk)
      exact (Array.getElem?_eq_some_iff.1 ho').1
     ·refine Nat.le_trans (nodupN_len tl _ g1 fun k hk => List.mem_filter.2 ⟨g3 k hk, ?_⟩) hcount'
      rw [hl' k (g3 k hk)]; simpa using hk
    have hsplitσ : ∀ k ∈ σ, k ≠ i → k = eF.i ∨ (∃ x ∈ es, x.i = k ∧ x.i ≠ eF.i ∧ listed.getD k false = true) ∨ k ∈ r0 := by
     intro k hk hki
     rw [hσ, h1] at hk
     rcases List.mem_append.1 hk with h | h
     ·obtain ⟨x, hx, rfl⟩ := List.mem_map.1 h
      by_cases hxF : x.i = eF.i
      ·exact .inl hxF
      ·exact .inr (.inl ⟨x, hx, rfl, hxF, hdone x hx hxF⟩)
     ·rcases List.mem_cons.1 h with h | h
      ·exact absurd h hki
      ·exact .inr (.inr h)
    have hr0σ : ∀ k ∈ r0, k ∈ σ := fun k hk => by rw [hσ, h1]; exact List.mem_append_right _ (List.mem_cons_of_mem _ hk)
    have nc : ∀ {k : Nat} {l : List Nat}, k ∉ l → l.contains k = false := fun {k l} h => by cases h2 : l.contains k with | false => rfl | true => exact absurd (by simpa using h2) h
    have es0r : ∀ x ∈ es, x.i ∉ i :: r0 := fun x hx hk2 => apart x.i (List.mem_map.2 ⟨x, hx, rfl⟩) (by rw [h1]; exact hk2)
    cases hF : isL listed eF with
    | true =>
      have hall : ∀ x ∈ es, isL listed x = true := fun x hx => by
       by_cases hxF : x.i = eF.i
       ·have : isL listed x = isL listed eF := by simp only [isL, hxF]
        rw [this, hF]
       ·exact hdone x hx hxF
      rw [List.filter_eq_self.2 hall] at hr
      refine ⟨r0, hndr, tailW_of (by simp only [tailW, Bool.and_eq_true] at htA; exact htA.2), hr0σ, hir, fun k hk hki => ?_, hst1 a w β S hr⟩
      rcases hsplitσ k hk hki with h | ⟨x, hx, rfl, h, h2⟩ | h
      ·subst h; rw [nc (fun h => hFin (List.mem_cons_of_mem _ h))]; exact hF
      ·rw [nc (fun h3 => es0r x hx (List.mem_cons_of_mem _ h3)), h2]; rfl
      ·rw [hnot k (List.mem_cons_of_mem _ h)]; simpa using h
    | false =>
      have hfl : es.filter (isL listed) = es0 ++ es1 := by
       conv => lhs; rw [hes]
       rw [List.filter_append, List.filter_cons, if_neg (by simp [hF]), List.filter_eq_self.2 (fun x hx => hdone x (by rw [hes]; exact List.mem_append_left _ hx) (hFs x hx)), List.filter_eq_self.2 (fun x hx => hdone x (by rw [hes]; exact List.mem_append_right _ (List.mem_cons_of_mem _ hx)) (hFt x hx))]
      rw [hfl] at hr
      refine ⟨eF.i :: r0, ?_, htB, fun k hk => ?_, ?_, fun k hk hki => ?_, hst2 a w β S hr⟩
      ·simp only [nodupN, Bool.and_eq_true]
       exact ⟨by simpa using fun h => hFin (List.mem_cons_of_mem _ h), hndr⟩
      ·rcases List.mem_cons.1 hk with rfl | h
       ·exact hFσ
       ·exact hr0σ k h
      ·intro h
       rcases List.mem_cons.1 h with h | h
       ·exact hFin (by rw [h]; simp)
       ·exact hir h
      ·rcases hsplitσ k hk hki with h | ⟨x, hx, rfl, h, h2⟩ | h
       ·subst h
        have : listed.getD eF.i false = false := hF
        rw [this]; simp
       ·rw [h2, nc (fun h3 => ?_)]; rfl
        rcases List.mem_cons.1 h3 with h3 | h3
        ·exact h h3
        ·exact es0r x hx (List.mem_cons_of_mem _ h3)
       ·rw [hnot k (List.mem_cons_of_mem _ h)]; simp [h]
   suffices hgo : runOr P ops o a w (wpAny P .any ops Q fuel listed') Q by
    unfold wpOp
    rw [ho]
    simp only
    unfold runOr at hgo
    split
    ·rename_i hw
     rw [if_pos hw] at hgo
     exact .inl hgo
    ·rename_i hw
     rw [if_neg hw] at hgo
     exact hgo
   rw [hσ] at hmemσ
   rcases List.mem_append.1 hmemσ with hmem | hmem2
   ·obtain ⟨e, he, hei⟩ := List.mem_map.1 hmem
    obtain ⟨p, hp⟩ := List.getElem?_of_mem he
    obtain ⟨a0, b0, hsplit, hlen⟩ := split_at hp
    have hch' := hch
    rw [hsplit] at hch'
    obtain ⟨hoe, hLb, hst⟩ := Chain_at a0 e b0 f L hch'
    subst hei
    rw [ho] at hoe
    injection hoe with hoe
    subst hoe
    have hel : isL listed e = false := hnl'
    -- entries before and behind
    have before : ∀ x ∈ a0, clash ops qt x.o e.o = true → isL listed x = true := by
     intro x hx hc
     obtain ⟨q, hq⟩ := List.getElem?_of_mem hx
     have hqlt := lt_of_get hq
     have hq' : es[q]? = some x := by rw [hsplit, List.getElem?_append_left hqlt]; exact hq
     have hxo : ops[x.i]? = some x.o := mem_ops x (by rw [hsplit]; simp [hx])
     have hbit := pairsOk_spec hpr q p x.i e.i x.o e.o (by omega) (hidx q x hq') (hidx p e hp) hxo ho hc
     exact ready_reach hcl (hgood _ _ hbit) (fun o' ho' e' he' hb' => by rw [ho] at ho'; injection ho' with ho'; subst ho'; exact hrdy e' he' hb')
    have behind : ∀ x ∈ b0, clash ops qt e.o x.o = true → isL listed x = false := by
     intro x hx hc
     obtain ⟨q, hq⟩ := List.getElem?_of_mem hx
     have hq' : es[p + 1 + q]? = some x := by
      rw [hsplit, List.getElem?_append_right (by omega)]
      rw [show p + 1 + q - a0.length = q + 1 by omega]
      simpa using hq
     have hxo : ops[x.i]? = some x.o := mem_ops x (by rw [hsplit]; simp [hx])
     have hbit := pairsOk_spec hpr p (p + 1 + q) e.i x.i e.o x.o (by omega) (hidx p e hp) (hidx (p + 1 + q) x hq') ho hxo hc
     cases hl : isL listed x with
     | false => rfl
     | true =>
       have := closed_reach hcl (hgood _ _ hbit) hl
       simp only [isL] at hel
       rw [this] at hel
       cases hel
    -- what is looked at is as in the one walk
    have clash_l : ∀ x : Ent, ∀ s ∈ e.o.looksAt ops, hasDst s x = true → clash ops qt x.o e.o = true ∧ clash ops qt e.o x.o = true := by
     intro x s hs hx
     have hx' : x.o.dst = some s := by simpa [hasDst] using hx
     simp [clash, hx', hs]
    have clash_d : ∀ x : Ent, ∀ d, e.o.dst = some d → hasDst d x = true → clash ops qt e.o x.o = true := by
     intro x d hd hx
     have hx' : x.o.dst = some d := by simpa [hasDst] using hx
     simp [clash, hx', hd]
    have clash_e : readsHp e.o.op = true → quiet qt e.o = false → ∀ x : Ent, effE x = true → clash ops qt x.o e.o = true ∧ clash ops qt e.o x.o = true := by
     intro hrd hqu x hx
     have hx' : effOp x.o.op = true := hx
     simp [clash, hx', hrd, hqu]
    have look : ∀ s ∈ e.o.looksAt ops, runF f (es.filter (isL listed)) s = runF f a0 s := by
     intro s hs
     rw [runF_at _ f f s rfl, runF_at a0 f f s rfl, hsplit, filter_split (hasDst s) listed a0 e b0 hel (fun x hx hd => before x hx (clash_l x s hs hd).1) (fun x hx hd => behind x hx (clash_l x s hs hd).2)]
    have heap : readsHp e.o.op = true → quiet qt e.o = false → lastL L (es.filter (isL listed)) = e.Lb := by
     intro hrd hqu
     rw [hLb, lastL_at, lastL_at a0, hsplit, filter_split effE listed a0 e b0 hel (fun x hx hd => before x hx (clash_e hrd hqu x hd).1) (fun x hx hd => behind x hx (clash_e hrd hqu x hd).2)]
    have hL' : ∀ x ∈ es, isL listed' x = (isL listed x || x.i == e.i) := by
     intro x hx
     exact hset x.i
    have hother : ∀ x ∈ es, x.i = e.i → x = e := by
     intro x hx hxi
     obtain ⟨q, hq⟩ := List.getElem?_of_mem hx
     have := nodupN_spec hnd q p e.i (by rw [← hxi]; exact hidx q x hq) (hidx p e hp)
     subst this
     rw [hq] at hp
     injection hp
    have hne_a : ∀ x ∈ a0, x.i ≠ e.i := by
     intro x hx hxi
     obtain ⟨q, hq⟩ := List.getElem?_of_mem hx
     have hqlt := lt_of_get hq
     have hq' : es[q]? = some x := by rw [hsplit, List.getElem?_append_left hqlt]; exact hq
     have := nodupN_spec hnd q p e.i (by rw [← hxi]; exact hidx q x hq') (hidx p e hp)
     omega
    have hne_b : ∀ x ∈ b0, x.i ≠ e.i := by
     intro x hx hxi
     obtain ⟨q, hq⟩ := List.getElem?_of_mem hx
     have hq' : es[p + 1 + q]? = some x := by
      rw [hsplit, List.getElem?_append_right (by omega), show p + 1 + q - a0.length = q + 1 by omega]
      simpa using hq
     have := nodupN_spec hnd (p + 1 + q) p e.i (by rw [← hxi]; exact hidx (p + 1 + q) x hq') (hidx p e hp)
     omega
    have hfl' : es.filter (isL listed') = a0.filter (isL listed) ++ e :: b0.filter (isL listed) := by
     have h1 : a0.filter (isL listed') = a0.filter (isL listed) := List.filter_congr fun x hx => by rw [hL' x (by rw [hsplit]; simp [hx])]; simp [hne_a x hx]
     have h2 : b0.filter (isL listed') = b0.filter (isL listed) := List.filter_congr fun x hx => by rw [hL' x (by rw [hsplit]; simp [hx])]; simp [hne_b x hx]
     have h3 : isL listed' e = true := by rw [hL' e he]; simp
     conv => lhs; rw [hsplit]
     rw [List.filter_append, List.filter_cons, if_pos h3, h1, h2]
    have hfl : es.filter (isL listed) = a0.filter (isL listed) ++ b0.filter (isL listed) := by
     conv => lhs; rw [hsplit]
     rw [List.filter_append, List.filter_cons, if_neg (by simp [hel])]
    have hF' : runF f (es.filter (isL listed')) = updo (runF f (es.filter (isL listed))) e.o.dst e.v := by
     funext s
     by_cases hs : e.o.dst = some s
     ·have hb : (b0.filter (isL listed)).filter (hasDst s) = [] := by
       rw [List.filter_filter, List.filter_eq_nil_iff]
       intro x hx h
       simp only [Bool.and_eq_true] at h
       have := behind x hx (clash_d x s hs h.1)
       rw [this] at h
       cases h.2
      rw [hfl', runF_app]
      simp only [runF, hs, updo]
      rw [runF_at (b0.filter (isL listed)) _ _ s rfl, hb]
      simp only [runF, upd_self]
     ·have hd : hasDst s e = false := by simp [hasDst, hs]
      have h1 : runF f (es.filter (isL listed')) s = runF f (es.filter (isL listed)) s := by
       rw [runF_at _ f f s rfl, runF_at (es.filter (isL listed)) f f s rfl, hfl', hfl]
       rw [List.filter_append, List.filter_append, List.filter_cons, if_neg (by simp [hd])]
      rw [h1]
      cases h2 : e.o.dst with
      | none => rfl
      | some d =>
        have : s ≠ d := fun e' => hs (by rw [h2, e'])
        simp only [updo, upd_ne _ _ _ _ this]
    have hLL' : lastL L (es.filter (isL listed')) = if effE e then e.La else lastL L (es.filter (isL listed)) := by
     cases hef : effE e with
     | true =>
       have hrd : readsHp e.o.op = true := by
        have : effOp e.o.op = true := hef
        unfold readsHp
        split <;> first | rfl | exact this
       have hqu : quiet qt e.o = false := by
        have : effOp e.o.op = true := hef
        simp [quiet, this]
       have hb : (b0.filter (isL listed)).filter effE = [] := by
        rw [List.filter_filter, List.filter_eq_nil_iff]
        intro x hx h
        simp only [Bool.and_eq_true] at h
        have := behind x hx (clash_e hrd hqu x h.1).2
        rw [this] at h
        cases h.2
       rw [hfl', lastL_app]
       simp only [lastL, hef, if_true]
       rw [lastL_at, hb]
       rfl
     | false =>
       rw [lastL_at, lastL_at (es.filter (isL listed)), hfl', hfl]
       rw [List.filter_append, List.filter_append, List.filter_cons, if_neg (by simp [hef])]
       rfl
    have next : ∀ a' w' β' S', Rel C n (updo (runF f (es.filter (isL listed))) e.o.dst e.v) (if effE e then e.La else lastL L (es.filter (isL listed))) a' w' β' S' → wpAny P .any ops Q fuel listed' a' w' := by
     intro a' w' β' S' hr'
     refine ih listed' a' w' β' S' (by simp [listed', hsz]) hcl' ?_ ?_ hcount' ?_
     ·intro j hj
      rw [hset] at hj
      simp only [Bool.or_eq_true, beq_iff_eq] at hj
      rcases hj with hj | hj
      ·exact hsub j hj
      ·rw [hj]; exact List.mem_map.2 ⟨e, he, rfl⟩
     ·intro x hx hd
      rw [hL' x hx, hdn x hx hd]
      rfl
     ·rw [hF', hLL']
      exact hr'
    rcases hst with ⟨k1, k2, k3⟩ | ⟨k1, k2⟩
    ·rcases k3 with k3 | k3
     ·rw [hdn e he k3] at hel
      cases hel
     ·refine k3 C hT _ look _ heap a w β S hr _ _ fun a' w' β' S' hr' => next a' w' β' S' ?_
      rw [k1]
      exact hr'
    ·have hrd : readsHp e.o.op = true := by
      have : effOp e.o.op = true := k1
      unfold readsHp
      split <;> first | rfl | exact this
     have hqu : quiet qt e.o = false := by
      have : effOp e.o.op = true := k1
      simp [quiet, this]
     have hr2 := hr
     rw [heap hrd hqu] at hr2
     refine k2 C hT _ look a w β S hr2 _ _ fun a' w' β' S' hr' => next a' w' β' S' ?_
     rw [k1]
     exact hr'
   ·rcases H with ⟨h1, _⟩ | ⟨i0, r, o0, Z, h1, ho0, heff, hst, hreach, hcont⟩ | ⟨i0, r0, σt, h1, htl, hst⟩ | ⟨es0, eF, es1, i0, r0, σt, hes, h1, htl, hst1, hst2⟩
    ·rw [h1] at hmem2
     cases hmem2
    ·rw [h1] at hmem2
     have hni : i0 ∉ es.map (·.i) := fun h => apart i0 h (by rw [h1]; simp)
     rcases List.mem_cons.1 hmem2 with rfl | hmem2
     ·rw [ho] at ho0
      injection ho0 with ho0
      subst ho0
      have look : ∀ s ∈ o.looksAt ops, runF f (es.filter (isL listed)) s = runF f es s := by
       intro s hs
       rw [runF_at _ f f s rfl, runF_at es f f s rfl]
       have : (es.filter (isL listed)).filter (hasDst s) = es.filter (hasDst s) := by
        rw [List.filter_filter]
        refine List.filter_congr fun x hx => ?_
        cases h : hasDst s x with
        | false => simp
        | true =>
          obtain ⟨q, hq⟩ := List.getElem?_of_mem hx
          have hx' : x.o.dst = some s := by simpa [hasDst] using h
          have hbit := pairsOk_spec hpr q (es.map (·.i)).length x.i i x.o o (by simpa using lt_of_get hq) (hidx q x hq) (by rw [hσ, List.getElem?_append_right (by omega), h1]; simp) (mem_ops x hx) ho (by simp [clash, hx', hs])
          have := ready_reach hcl (hgood _ _ hbit) (fun o' ho' e' he' hb' => by rw [ho] at ho'; injection ho' with ho'; subst ho'; exact hrdy e' he' hb')
          simp [isL, this]
       rw [this]
      refine hst _ look _ a w β S hr _ _ fun C' v a' w' β' S' hz hr' => ?_
      have hL' : ∀ x ∈ es, isL listed' x = isL listed x := by
       intro x hx
       have : ¬ x.i = i := fun h => hni (h ▸ List.mem_map.2 ⟨x, hx, rfl⟩)
       show listed'.getD x.i false = _
       rw [hset]
       simp [this, isL]
      have hfl : (es ++ [(⟨i, o, v, lastL L es, lastL L es, true⟩ : Ent)]).filter (isL listed') = es.filter (isL listed) ++ [⟨i, o, v, lastL L es, lastL L es, true⟩] := by
       have h3 : isL listed' (⟨i, o, v, lastL L es, lastL L es, true⟩ : Ent) = true := by
        show listed'.getD i false = true
        rw [hset]
        simp
       rw [List.filter_append, List.filter_congr hL', List.filter_cons, if_pos h3]
       rfl
      refine hcont C' v hz fuel listed' a' w' β' S' (by simp [listed', hsz]) hcl' ?_ ?_ hcount' ?_
      ·intro j hj
       rw [hset] at hj
       simp only [Bool.or_eq_true, beq_iff_eq] at hj
       rcases hj with hj | hj
       ·rw [List.map_append]; exact List.mem_append_left _ (hsub j hj)
       ·rw [hj]; simp
      ·intro x hx hd
       rcases List.mem_append.1 hx with hx | hx
       ·rw [hL' x hx]; exact hdn x hx hd
       ·rw [List.mem_singleton] at hx
        subst hx
        show listed'.getD i false = true
        rw [hset]
        simp
      ·rw [hfl, runF_app, lastL_app]
       simp only [runF, lastL, effE, heff]
       exact hr'
     ·have := ready_reach hcl (hreach i hmem2) (fun o' ho' e' he' hb' => by rw [ho] at ho'; injection ho' with ho'; subst ho'; exact hrdy e' he' hb')
      exact absurd (hsub i0 this) hni
    ·exact absurd ⟨i0, r0, σt, h1, htl, h1 ▸ hmem2, hst⟩ hnt
    ·exact absurd ⟨es0, eF, es1, i0, r0, σt, hes, h1, htl, h1 ▸ hmem2, hst1, hst2⟩ hnt2
theorem DrawOk_snoc {f : Fr} {L : Hp} {es : List Ent} {σ : List Nat} {e : Ent} (hi : e.i ∉ es.map (·.i)) (hd : e.dn = false) (h : DrawOk P n ops Q σ (es ++ [e]) f L C) : DrawOk P n ops Q σ es f L C := by
 intro fuel listed a w β S hsz hcl hsub hdn hcount hr
 have hne : isL listed e = false := by
  cases h : isL listed e with
  | false => rfl
  | true => exact absurd (hsub _ h) hi
 refine h fuel listed a w β S hsz hcl (fun j hj => by rw [List.map_append]; exact List.mem_append_left _ (hsub j hj)) ?_ hcount ?_
 ·intro x hx hd'
  rcases List.mem_append.1 hx with hx | hx
  ·exact hdn x hx hd'
  ·rw [List.mem_singleton] at hx
   subst hx
   rw [hd] at hd'
   cases hd'
 ·rw [List.filter_append, List.filter_cons, if_neg (by simp [hne])]
  simpa using hr
theorem DT_draw {σ : List Nat} (hnd : nodupN σ = true) (hcov : ((List.range ops.size).all fun i => σ.contains i) = true) (hed : edgesOk ops [] σ = true) (hpr : pairsOk ops qt (masks ops σ []) σ = true) {σ2 : List Nat} {f' : Fr} {L' : Hp} (h : DTi P n ops qt Q C σ2 f' L') :
 CT P C → ∀ (es : List Ent) (f : Fr) (L : Hp), Chain P n ops qt es f L → f' = runF f es → L' = lastL L es → σ = es.map (·.i) ++ σ2 → DrawOk P n ops Q σ es f L C := by
 have apart : ∀ (es : List Ent) (i : Nat) (r : List Nat), σ = es.map (·.i) ++ i :: r → i ∉ es.map (·.i) := by
  intro es i r hσ hi
  obtain ⟨p, hp⟩ := List.getElem?_of_mem hi
  have h1 := lt_of_get hp
  have := nodupN_spec hnd p (es.map (·.i)).length i (by rw [hσ, List.getElem?_append_left h1]; exact hp) (by rw [hσ, List.getElem?_append_right (by omega)]; simp)
  omega
 induction h with
 | nil h =>
   intro hT es f L hch hf hL hσ
   subst hf; subst hL
   exact draw_main hT hσ hch hnd hcov hed hpr (.inl ⟨rfl, h⟩)
 | @a C i o v r f' L' ho hs _ ih =>
   intro hT es f L hch hf hL hσ
   subst hf; subst hL
   refine DrawOk_snoc (e := ⟨i, o, v, lastL L es, lastL L es, false⟩) (apart es i r hσ) rfl (ih hT (es ++ [⟨i, o, v, lastL L es, lastL L es, false⟩]) f L (Chain_snoc es ⟨i, o, v, lastL L es, lastL L es, false⟩ f L hch ho rfl ?_) (by rw [runF_app]; rfl) (by rw [lastL_app]; simp only [lastL]; split <;> rfl) (by rw [hσ]; simp))
   cases e : effOp o.op with
   | false => exact .inl ⟨e, rfl, .inr hs⟩
   | true => exact .inr ⟨e, StB_of_A P n ops qt hs⟩
 | @b C i o v r f' L' L2 ho he hs _ ih =>
   intro hT es f L hch hf hL hσ
   subst hf; subst hL
   exact DrawOk_snoc (e := ⟨i, o, v, lastL L es, L2, false⟩) (apart es i r hσ) rfl (ih hT (es ++ [⟨i, o, v, lastL L es, L2, false⟩]) f L (Chain_snoc es ⟨i, o, v, lastL L es, L2, false⟩ f L hch ho rfl (.inr ⟨he, hs⟩)) (by rw [runF_app]; rfl) (by rw [lastL_app]; simp only [lastL, effE, he, if_true]) (by rw [hσ]; simp))
 | @e C i o Z r f' L' ho he hs hall hct _ ih =>
   intro hT es f L hch hf hL hσ
   subst hf; subst hL
   have hgood := masks_good (ops := ops) (i :: r) [] (fun i j h => by simp [lookM] at h)
   refine draw_main hT hσ hch hnd hcov hed hpr (.inr <| .inl ⟨i, r, o, Z, rfl, ho, he, hs, fun j hj => hgood j i (List.all_eq_true.1 hall j hj), fun C' v hz => ?_⟩)
   exact ih C' v hz (hct C' v hz hT) (es ++ [⟨i, o, v, lastL L es, lastL L es, true⟩]) f L (Chain_snoc es ⟨i, o, v, lastL L es, lastL L es, true⟩ f L hch ho rfl (.inl ⟨he, rfl, .inl rfl⟩)) (by rw [runF_app]; rfl) (by rw [lastL_app]; simp only [lastL, effE, he]; rfl) (by rw [hσ]; simp)
 | @t C i tl os f' L' σt hl hos hz =>
   intro hT es f L hch hf hL hσ
   subst hf; subst hL
   exact draw_main hT hσ hch hnd hcov hed hpr (.inr <| .inr <| .inl ⟨i, tl, σt, rfl, hl, fun a w β S hr => by rw [wpOps_at (i :: tl) os hos]; exact hz a w β S hr⟩)
 | @t2 C F ia i tl os os2 oF oA v Z f' L' σt ho he hs hoA heA hsA hall hct hl hos hos2 hz =>
   intro hT es f L hch hf hL hσ
   subst hf; subst hL
   have hgood := masks_good (ops := ops) (ia :: i :: tl) [] (fun i j h => by simp [lookM] at h)
   refine DrawOk_snoc (e := ⟨F, oF, v, lastL L es, lastL L es, false⟩) (apart es F (ia :: i :: tl) hσ) rfl ?_
   have hch2 := Chain_snoc es ⟨F, oF, v, lastL L es, lastL L es, false⟩ f L hch ho rfl (.inl ⟨he, rfl, .inr hs⟩)
   have hLs : lastL L (es ++ [⟨F, oF, v, lastL L es, lastL L es, false⟩]) = lastL L es := by rw [lastL_app]; simp only [lastL, effE, he, Bool.false_eq_true, if_false]
   have hFs : runF f (es ++ [⟨F, oF, v, lastL L es, lastL L es, false⟩]) = updo (runF f es) oF.dst v := by rw [runF_app]; rfl
   refine draw_main hT (es := es ++ [⟨F, oF, v, lastL L es, lastL L es, false⟩]) (σ2 := ia :: i :: tl) (by rw [hσ]; simp) hch2 hnd hcov hed hpr (.inr <| .inl ⟨ia, i :: tl, oA, Z, rfl, hoA, heA, by rw [hFs]; exact hsA, fun j hj => hgood j ia (List.all_eq_true.1 hall j hj), fun C' va hza => ?_⟩)
   rw [hLs]
   have hch3 := Chain_snoc (es ++ [⟨F, oF, v, lastL L es, lastL L es, false⟩]) ⟨ia, oA, va, lastL L es, lastL L es, true⟩ f L hch2 hoA hLs.symm (.inl ⟨heA, hLs.symm, .inl rfl⟩)
   refine draw_main (hct C' va hza hT) (es := es ++ [⟨F, oF, v, lastL L es, lastL L es, false⟩] ++ [⟨ia, oA, va, lastL L es, lastL L es, true⟩]) (σ2 := i :: tl) (by rw [hσ]; simp) hch3 hnd hcov hed hpr (.inr <| .inr <| .inr ⟨es, ⟨F, oF, v, lastL L es, lastL L es, false⟩, [⟨ia, oA, va, lastL L es, lastL L es, true⟩], i, tl, σt, by simp, rfl, hl, fun a w β S hr => ?_, fun a w β S hr => ?_⟩)
   ·rw [wpOps_at (i :: tl) os hos]
    refine (hz C' va hza).1 a w β S ?_
    rw [runF_app, lastL_app, hLs, hFs] at hr
    simpa only [runF, lastL, effE, heA, Bool.false_eq_true, if_false] using hr
   ·rw [wpOps_at (i :: F :: tl) os2 hos2]
    refine (hz C' va hza).2 a w β S ?_
    rw [runF_app, lastL_app] at hr
    simpa only [runF, lastL, effE, heA, Bool.false_eq_true, if_false] using hr
theorem AC_drawq (hT : CT P C) {id : Nat} {f : Fr} {L : Hp} (hm : P.follows .mixedOrders = true) (qt σ : List Nat) (hok : okDraw ops qt σ = true) (h : DT P n ops qt C Q σ f L) : AC P C n (.region id ops true) Q f L := by
 simp only [okDraw, Bool.and_eq_true] at hok
 obtain ⟨⟨⟨⟨hle, hnd⟩, hcov⟩, hed⟩, hpr⟩ := hok
 have hd := DT_draw hnd hcov hed hpr h hT [] f L trivial rfl rfl rfl
 intro a w β S hr
 refine wp_region_any hm ?_
 have hrep : ∀ i, (Array.replicate ops.size false).getD i false = false := fun i => by
  rw [Array.getD_eq_getD_getElem?, Array.getElem?_replicate]; split <;> rfl
 refine hd ops.size _ a _ β S (by simp) (fun i o h => by rw [hrep] at h; cases h) (fun j h => by rw [hrep] at h; cases h) (fun e he => by cases he) ?_ ?_
 ·refine Nat.le_trans (List.length_filter_le _ _) ?_
  exact Nat.le_of_ble_eq_true hle
 ·have lat : Later β S w β S { w with drawn := w.drawn + 1 } := ⟨fun _ _ h => h, fun _ h => h, fun _ _ => rfl⟩
  exact ⟨hr.df, hr.sz, fun i => VR_later lat (hr.fr i), ⟨fun i b hb => BoxR_later lat (fun _ _ _ => rfl) (hr.hp.bx i b hb), hr.hp.inj, hr.hp.own, hr.hp.fz, hr.hp.un, hr.hp.ad⟩, hr.own, hr.fz, hr.s0, ⟨hr.pres.os, hr.pres.tape, hr.pres.output, hr.pres.size, hr.pres.block⟩⟩
theorem AC_draw (hT : CT P C) {id : Nat} {f : Fr} {L : Hp} (hm : P.follows .mixedOrders = true) (σ : List Nat) (hok : okDraw ops [] σ = true) (h : DT P n ops [] C Q σ f L) : AC P C n (.region id ops true) Q f L := AC_drawq hT hm [] σ hok h
end
end Go.Eng

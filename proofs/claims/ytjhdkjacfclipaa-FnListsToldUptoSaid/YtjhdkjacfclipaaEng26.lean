/- The engine: functions that act behind a place that they know nothing of; a list behind a place, put to by a function value. -/
import Derived.Test.YtjhdkjacfclipaaEng25
set_option linter.unusedVariables false
set_option linter.unusedSimpArgs false
namespace Go.Eng

/-- What stands behind a place: a state, the blocks of it, and the memory. -/
structure Jx (A : Type) where
  J : A → List Nat → World → Prop
  stab : ∀ a F w w', J a F w → (∀ b ∈ F, w'.heap[b]? = w.heap[b]?) → J a F w'
  lt : ∀ a F w, J a F w → ∀ b ∈ F, b < w.heap.size

/-- A function that acts behind the place alone. -/
def FCall {A : Type} (P : Program) (k : FuncId) (J : Jx A) (ds : List D) (a a' : A) : Prop :=
  ∀ (w : World) (S : Nat → Prop) (vs : List Value) (F : List Nat), (∀ b, S b → b < w.heap.size) → Tab P S w → All2 (RD S w) ds vs → J.J a F w → (∀ b ∈ F, ¬ S b) →
    Calls P k vs.toArray w fun en w' => ∃ x F', en = .returned x ∧ J.J a' F' w' ∧ (∀ b ∈ F', b ∈ F ∨ w.heap.size ≤ b) ∧ Pres (fun b => b ∈ F) w w'

section
variable {P : Program} {C : Cx} {n : Nat} {f : Fr} {L : Hp} {Q : AQ} {ops : Array Oper} {rest : List Oper} {dst : Option Tmp} {ty : TypeId} {pos : String} {after : Array Edge} {A : Type}

/-- The state behind the place, under a context. -/
structure Jh (J : Jx A) (C : Cx) (a : A) (F : List Nat) : Prop where
  j : J.J a F C.w0
  dm : ∀ b ∈ F, ¬ C.Dm b
  s0 : ∀ b ∈ F, ¬ C.S0 b
theorem Jh.ext {J : Jx A} {C' : Cx} {a : A} {F : List Nat} (h : Jh J C a F) (k : CExt C C') : Jh J C' a F := by
  have hl := J.lt _ _ _ h.j
  obtain ⟨h1, h2, h3⟩ := keep_ext k hl h.dm h.s0
  exact ⟨J.stab _ _ _ _ h.j h1, h2, h3⟩
theorem CT.marked {C' : Cx} {K : List Nat} (h : CT P C) (k : Mk C K C') (hK : ∀ b ∈ K, ¬ C.S0 b) : CT P C' := fun g hg => by
  obtain ⟨h1, h2, h3⟩ := h g hg
  have hl := TabIs_lt hg h3
  refine ⟨k.s0 g h1, fun hd => ?_, TabIs_same hg h3 (k.pres.block g hl fun hd => hd.elim h2 fun h4 => hK g h4 h1)⟩
  rcases k.dm g hd with h4 | h4
  · exact h2 h4
  · omega

/-- The two ways to name the function. -/
inductive JFn (f : Fr) (k : FuncId) : Operand → List Value → Prop
  | plain {x : Operand} : ev f x = .d (.fn k []) → JFn f k x []
  | clo {x : Operand} {xs : List Value} : ev f x = .d (.c (.func (.func k) #[] xs.toArray)) → JFn f k x xs
theorem RDs_c {S : Nat → Prop} {w : World} : ∀ (xs : List Value), xs.all Value.scalar = true → All2 (RD S w) (xs.map D.c) xs
  | [], _ => .nil
  | x :: xs, h => by
    simp only [List.all_cons, Bool.and_eq_true] at h
    refine .cons ⟨?_, ?_⟩ (RDs_c xs h.2)
    · rw [cells_scalar h.1]; unfold DC; exact ⟨rfl, h.1⟩
    · rw [isAgg_scalar h.1]; rfl

end

/-! ### The start and the end -/
def retJ {A : Type} (fn : Func) (P : Program) (w0 : World) (J : Jx A) (F : List Nat) (a1 : A) (a : Act) (w' : World) : Prop :=
  a.defers = [] ∧ ∃ y, (results fn a.tmps).run P w' = .ok y w' ∧ ∃ F', J.J a1 F' w' ∧ (∀ b ∈ F', b ∈ F ∨ w0.heap.size ≤ b) ∧ Pres (fun b => b ∈ F) w0 w'
def retJQ {A : Type} (fn : Func) (P : Program) (w0 : World) (J : Jx A) (F : List Nat) (a1 : A) : AQ := fun x a w => ends x = true ∧ retJ fn P w0 J F a1 a w

section
variable {P : Program} {C : Cx} {n : Nat} {f : Fr} {L : Hp} {A : Type}
end

/-! ### A list behind a place -/
def dmN (b0 : Nat) (o : Option (Nat × Nat)) (b : Nat) : Prop := b = b0 ∨ ∃ c, o = some (b, c)
def blkO : Option (Nat × Nat) → List Nat
  | none => []
  | some (b, _) => [b]

section
variable {P : Program} {C : Cx} {n : Nat} {f : Fr} {L : Hp} {Q : AQ} {ops : Array Oper} {rest : List Oper} {dst : Option Tmp} {ty : TypeId} {pos : String} {after : Array Edge}

end

/-- A list of texts behind a place. -/
def Jl (t0 e : TypeId) (b0 c0 : Nat) : Jx (List ByteArray) where
  J xs F w := ∃ o A cur, w.heap[b0]? = some (.cells cur t0 (0, 0)) ∧ cur.size = c0 ∧ 1 ≤ c0 ∧ c0 ≤ maxLen ∧ cur[0]? = some A ∧ LB (fun _ => False) w e .one (strs xs) A o ∧ (∀ c, o ≠ some (b0, c)) ∧ F = b0 :: blkO o
  stab := by
    rintro xs F w w' ⟨o, A, cur, h1, h2, h3, h4, h5, ⟨h6, h7, h8⟩, h9, rfl⟩ hs
    refine ⟨o, A, cur, (hs b0 (by simp)).trans h1, h2, h3, h4, h5, ⟨?_, ?_, fun _ _ _ h => h⟩, h9, rfl⟩
    · refine BoxR_later (β := β1 o) (S := fun _ => False) (w := w) ⟨fun _ _ h => h, fun _ h => h, fun _ h => h.elim⟩ (fun b c hb => hs b ?_) h6
      have : o = some (b, c) := by simpa using hb
      subst this
      simp [blkO]
    · exact VC_later (β := β1 o) (S := fun _ => False) (w := w) ⟨fun _ _ h => h, fun _ h => h, fun _ h => h.elim⟩ _ _ h7
  lt := by
    rintro xs F w ⟨o, A, cur, h1, h2, h3, h4, h5, ⟨h6, h7, h8⟩, h9, rfl⟩ b hb
    rcases List.mem_cons.1 hb with rfl | hb
    · exact (Array.getElem?_eq_some_iff.1 h1).1
    · cases o with
      | none => cases hb
      | some q =>
        obtain ⟨b', c'⟩ := q
        simp only [blkO, List.mem_singleton] at hb
        subst hb
        exact h6.lt (show β1 (some (b, c')) 0 = some (some (b, c')) by simp)
end Go.Eng

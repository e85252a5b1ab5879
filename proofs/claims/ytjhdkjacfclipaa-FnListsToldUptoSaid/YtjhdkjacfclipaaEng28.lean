/- Rows of clauses while they are marked. -/
import Derived.Test.YtjhdkjacfclipaaEng27
set_option linter.unusedVariables false
namespace Go.Eng
end Go.Eng

/- The engine: a list under a context, a call that takes it; a call over a closure that keeps a list in a box. -/
set_option linter.unusedVariables false
set_option linter.unusedSimpArgs false
namespace Go.Eng

structure LBh (C : Cx) (e : TypeId) (xs : List D) (A : Value) (o : Option (Nat × Nat)) : Prop where
  lb : LB (fun _ => False) C.w0 e .one xs A o
  dm : ∀ b c, o = some (b, c) → ¬ C.Dm b
  s0 : ∀ b c, o = some (b, c) → ¬ C.S0 b
theorem LB.lt {S : Nat → Prop} {w : World} {e : TypeId} {l : Lay} {xs : List D} {A : Value} {o : Option (Nat × Nat)} (h : LB S w e l xs A o) {b c : Nat} (ho : o = some (b, c)) : b < w.heap.size :=
  h.bx.lt (show β1 o 0 = some (some (b, c)) by simp [ho])
theorem LB.move {S' : Nat → Prop} {w w' : World} {e : TypeId} {l : Lay} {xs : List D} {A : Value} {o : Option (Nat × Nat)} (h : LB (fun _ => False) w e l xs A o) (hb : ∀ b c, o = some (b, c) → w'.heap[b]? = w.heap[b]?) (hn : ∀ b c, o = some (b, c) → ¬ S' b) : LB S' w' e l xs A o :=
  ⟨BoxR_later (β := β1 o) (S := fun _ => False) (w := w) ⟨fun _ _ h => h, fun _ h => h.elim, fun _ h => h.elim⟩ (fun b c hbc => hb b c (by simpa using hbc)) h.bx,
   VC_later (β := β1 o) (S := fun _ => False) (w := w) ⟨fun _ _ h => h, fun _ h => h.elim, fun _ h => h.elim⟩ _ _ h.vc, hn⟩
theorem LB.drop {S S' : Nat → Prop} {w : World} {e : TypeId} {l : Lay} {ss : List ByteArray} {A : Value} {o : Option (Nat × Nat)} (h : LB S w e l (strs ss) A o) : LB (fun _ => False) w e l (strs ss) A o := by
  refine ⟨?_, ?_, fun _ _ _ h => h⟩
  · obtain ⟨h0, h⟩ := h.bx
    refine ⟨h0, ?_⟩
    rcases h with h | ⟨b, C, cur, ds, h1, h2, h3, h4, h5, h6⟩
    · exact .inl h
    · refine .inr ⟨b, C, cur, ds, h1, h2, h3, h4, ?_, h6⟩
      have key : ∀ (xs : List ByteArray) (fs : List Lay) (cs : List Value), VCs (β1 o) S w fs ((strs xs).map V.d) cs → VCs (β1 o) (fun _ => False) w fs ((strs xs).map V.d) cs := by
        intro xs
        induction xs with
        | nil => intro fs cs h; simpa only [strs, List.map_nil, VCs] using h
        | cons x xs ih =>
          intro fs cs h
          simp only [strs, List.map_cons, VCs, VC, DC] at h ⊢
          obtain ⟨f, fr, c1, c2, e1, e2, e3, e4, e5⟩ := h
          exact ⟨f, fr, c1, c2, e1, e2, e3, e4, ih fr c2 (by simpa only [strs] using e5)⟩
      exact key ss _ _ h5
  · have := h.vc
    simp only [VC] at this ⊢
    exact this
theorem LB.scalar {S : Nat → Prop} {w : World} {e : TypeId} {l : Lay} {xs : List D} {A : Value} {o : Option (Nat × Nat)} (h : LB S w e l xs A o) : Value.scalar A = true := by
  have := h.vc
  simp only [VC] at this
  rcases this with ⟨_, h, _⟩ | ⟨_, _, _, h, _⟩ <;> (injection h with h; rw [h]; rfl)
theorem LBh.marked {C C' : Cx} {e : TypeId} {xs : List D} {A : Value} {o : Option (Nat × Nat)} {K : List Nat} (h : LBh C e xs A o) (k : Mk C K C') (hn : ∀ b c, o = some (b, c) → b ∉ K) : LBh C' e xs A o := by
  refine ⟨h.lb.move (fun b c ho => k.pres.block b (h.lb.lt ho) fun hd => hd.elim (h.dm b c ho) (hn b c ho)) fun _ _ _ h => h, fun b c ho hd => ?_, fun b c ho hs => ?_⟩
  · rcases k.dm b hd with h1 | h1
    · exact h.dm b c ho h1
    · have := h.lb.lt ho; omega
  · have := h.lb.lt ho
    rcases k.fz b hs with h1 | h1 | h1
    · exact h.s0 b c ho h1
    · omega
    · exact h.dm b c ho h1
section
variable {P : Program} {C : Cx} {n : Nat} {f : Fr} {L : Hp} {Q : AQ} {ops : Array Oper} {rest : List Oper} {dst : Option Tmp} {ty : TypeId} {pos : String} {after : Array Edge} {A : Type}
end
end Go.Eng

/- The engine: functions that hand out a list of texts of their own, told with its block's type. -/
set_option linter.unusedVariables false
set_option linter.unusedSimpArgs false
namespace Go.Eng

def NCall (P : Program) (k : FuncId) (ds : List D) (e : TypeId) (ys : List ByteArray) : Prop :=
  ∀ (w : World) (S : Nat → Prop) (vs : List Value), (∀ b, S b → b < w.heap.size) → Tab P S w → All2 (RD S w) ds vs →
    Calls P k vs.toArray w fun en w' => ∃ y o', en = .returned y ∧ LB (fun _ => False) w' e .one (strs ys) y o' ∧ (∀ b c, o' = some (b, c) → w.heap.size ≤ b) ∧ Pres (fun _ => False) w w'

theorem VCs_strs {β : Beta} {S : Nat → Prop} {w : World} : ∀ (ys : List ByteArray) (cs : List Value), VCs β S w (List.replicate ys.length .one) ((strs ys).map V.d) cs → cs = ys.map vs
  | [], cs, h => by simp only [strs, List.map_nil, VCs] at h; simpa using h.2
  | y :: ys, cs, h => by
    simp only [strs, List.map_cons, List.length_cons, List.replicate_succ, VCs, VC, DC] at h
    obtain ⟨f, fr, c1, c2, e1, rfl, e3, e4, e5⟩ := h
    injection e1 with e1 e1'
    subst e1; subst e1'
    have := VCs_strs ys c2 (by simpa only [strs] using e5)
    rw [this, e4.1]
    rfl
theorem LB.tr {S : Nat → Prop} {w : World} {e : TypeId} {ys : List ByteArray} {y : Value} {o : Option (Nat × Nat)} (h : LB S w e .one (strs ys) y o) : Tr w (.sl .one (strs ys)) [y] (blkO o) := by
  have hv := h.vc
  obtain ⟨h0, hb⟩ := h.bx
  simp only [VC, strs_length, β1, ite_true, Option.some.injEq] at hv
  simp only [Tr, strs_length]
  rcases hb with ⟨h1, h2⟩ | ⟨b, Cp, cur, ds, h1, h2, h3, h4, h5, h6⟩
  · have ho : o = none := by simpa [β1] using h1
    have hy : ys = [] := by simpa [strs] using h2
    subst ho; subst hy
    rcases hv with ⟨_, g, _⟩ | ⟨b, C, g, _⟩
    · exact .inl ⟨by simpa using g, rfl, rfl⟩
    · cases g
  · have ho : o = some (b, Cp) := by simpa [β1] using h1
    subst ho
    rcases hv with ⟨g, _⟩ | ⟨b', C', g, g1, g2⟩
    · cases g
    · injection g with g; injection g with g g'
      subst g; subst g'
      simp only [List.length_map, strs_length] at h4 h5 h0
      have hd := VCs_strs ys ds h5
      refine .inr ⟨b, Cp, cur, e, ds, [], rfl, by simp, by simpa using g1, h2, by simpa using h3, h4.1, h4.2, h0, ?_, h6⟩
      rw [hd]; exact strs_Trs ys
section
variable {P : Program} {C : Cx} {n : Nat} {f : Fr} {L : Hp} {Q : AQ} {ops : Array Oper} {rest : List Oper} {dst : Option Tmp} {ty : TypeId} {pos : String} {after : Array Edge}
end
end Go.Eng

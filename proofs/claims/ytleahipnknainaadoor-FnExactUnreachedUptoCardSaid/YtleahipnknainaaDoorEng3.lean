/- The engine: parts of data, and operations that turn no memory. -/
import Derived.Test.YtleahipnknainaaDoorEng2
set_option linter.unusedVariables false
set_option linter.unusedSimpArgs false
namespace Go.Eng

theorem lens_append (a b : List Lay) : Lay.lens (a ++ b) = Lay.lens a + Lay.lens b := by
  induction a with
  | nil => simp [Lay.lens]
  | cons x r ih => simp only [List.cons_append, Lay.lens, ih]; omega
theorem lens_replicate (k : Nat) (l : Lay) : Lay.lens (List.replicate k l) = k * l.len := by
  induction k with
  | zero => simp [Lay.lens]
  | succ k ih => simp only [List.replicate_succ, Lay.lens, ih, Nat.succ_mul]; omega

theorem DCs_len {S : Nat → Prop} {w : World} : ∀ (ds : List D) (fs : List Lay) (cs : List Value), DCs S w fs ds cs → cs.length = Lay.lens fs ∧ fs.length = ds.length
  | [], fs, cs, h => by
    simp only [DCs] at h
    obtain ⟨rfl, rfl⟩ := h
    simp [Lay.lens]
  | d :: ds, fs, cs, h => by
    simp only [DCs] at h
    obtain ⟨f, fr, c1, c2, rfl, rfl, h3, _, h5⟩ := h
    obtain ⟨h6, h7⟩ := DCs_len ds fr c2 h5
    simp [Lay.lens, h3, h6, h7]
theorem VCs_len {β : Beta} {S : Nat → Prop} {w : World} : ∀ (ds : List V) (fs : List Lay) (cs : List Value), VCs β S w fs ds cs → cs.length = Lay.lens fs ∧ fs.length = ds.length
  | [], fs, cs, h => by
    simp only [VCs] at h
    obtain ⟨rfl, rfl⟩ := h
    simp [Lay.lens]
  | d :: ds, fs, cs, h => by
    simp only [VCs] at h
    obtain ⟨f, fr, c1, c2, rfl, rfl, h3, _, h5⟩ := h
    obtain ⟨h6, h7⟩ := VCs_len ds fr c2 h5
    simp [Lay.lens, h3, h6, h7]

theorem DCs_get {S : Nat → Prop} {w : World} : ∀ (ds : List D) (fs : List Lay) (cs : List Value) (j : Nat) (l : Lay) (x : D), DCs S w fs ds cs → fs[j]? = some l → ds[j]? = some x →
    ∃ c1 c2 c3, cs = c1 ++ c2 ++ c3 ∧ c1.length = Lay.lens (fs.take j) ∧ c2.length = l.len ∧ DC S w x c2
  | [], fs, cs, j, l, x, h, h1, h2 => by simp at h2
  | d :: ds, fs, cs, j, l, x, h, h1, h2 => by
    simp only [DCs] at h
    obtain ⟨f, fr, c1, c2, rfl, rfl, h3, h4, h5⟩ := h
    cases j with
    | zero =>
      simp at h1 h2
      subst h1; subst h2
      exact ⟨[], c1, c2, by simp, by simp [Lay.lens], h3, h4⟩
    | succ j =>
      simp at h1 h2
      obtain ⟨d1, d2, d3, e, e1, e2, e3⟩ := DCs_get ds fr c2 j l x h5 h1 h2
      exact ⟨c1 ++ d1, d2, d3, by rw [e]; simp, by simp [Lay.lens, h3, e1], e2, e3⟩
theorem VCs_get {β : Beta} {S : Nat → Prop} {w : World} : ∀ (ds : List V) (fs : List Lay) (cs : List Value) (j : Nat) (l : Lay) (x : V), VCs β S w fs ds cs → fs[j]? = some l → ds[j]? = some x →
    ∃ c1 c2 c3, cs = c1 ++ c2 ++ c3 ∧ c1.length = Lay.lens (fs.take j) ∧ c2.length = l.len ∧ VC β S w x c2 ∧
      ∀ y d2, VC β S w y d2 → d2.length = l.len → VCs β S w fs (ds.set j y) (c1 ++ d2 ++ c3)
  | [], fs, cs, j, l, x, h, h1, h2 => by simp at h2
  | d :: ds, fs, cs, j, l, x, h, h1, h2 => by
    simp only [VCs] at h
    obtain ⟨f, fr, c1, c2, rfl, rfl, h3, h4, h5⟩ := h
    cases j with
    | zero =>
      simp at h1 h2
      subst h1; subst h2
      refine ⟨[], c1, c2, by simp, by simp [Lay.lens], h3, h4, fun y d2 hy hl => ?_⟩
      simp only [List.set_cons_zero, VCs]
      exact ⟨_, _, _, _, rfl, by simp, hl, hy, h5⟩
    | succ j =>
      simp at h1 h2
      obtain ⟨d1, d2, d3, e, e1, e2, e3, e4⟩ := VCs_get ds fr c2 j l x h5 h1 h2
      refine ⟨c1 ++ d1, d2, d3, by rw [e]; simp, by simp [Lay.lens, h3, e1], e2, e3, fun y dd hy hl => ?_⟩
      simp only [List.set_cons_succ, VCs]
      exact ⟨_, _, c1, d1 ++ dd ++ d3, rfl, by simp, h3, h4, e4 y dd hy hl⟩

theorem VCs_d {β : Beta} {S : Nat → Prop} {w : World} : ∀ (ds : List D) (fs : List Lay) (cs : List Value), VCs β S w fs (ds.map V.d) cs ↔ DCs S w fs ds cs
  | [], fs, cs => by simp only [List.map_nil, VCs, DCs]
  | d :: ds, fs, cs => by simp only [List.map_cons, VCs, DCs, VC, VCs_d ds]

theorem DC_at {S : Nat → Prop} {w : World} : ∀ (p : List Nat) (x : D) (l : Lay) (cs : List Value) (o : Nat) (l' : Lay) (y : D), DC S w x cs → cs.length = l.len → x.at? l p = some (o, l', y) →
    ∃ c1 c2 c3, cs = c1 ++ c2 ++ c3 ∧ c1.length = o ∧ c2.length = l'.len ∧ DC S w y c2
  | [], x, l, cs, o, l', y, h, hl, e => by
    cases x <;> (simp only [D.at?, Option.some.injEq, Prod.mk.injEq] at e; obtain ⟨rfl, rfl, rfl⟩ := e; exact ⟨[], cs, [], by simp, rfl, hl, h⟩)
  | j :: p, .agg fs ds, l, cs, o, l', y, h, hl, e => by
    simp only [D.at?] at e
    split at e
    · rename_i l1 x1 e1 e2
      split at e
      · rename_i o2 l2 y2 e3
        simp only [Option.some.injEq, Prod.mk.injEq] at e
        obtain ⟨rfl, rfl, rfl⟩ := e
        simp only [DC] at h
        obtain ⟨c1, c2, c3, rfl, h1, h2, h3⟩ := DCs_get ds fs cs j l1 x1 h e1 e2
        obtain ⟨d1, d2, d3, rfl, k1, k2, k3⟩ := DC_at p x1 l1 c2 _ _ _ h3 h2 e3
        exact ⟨c1 ++ d1, d2, d3 ++ c3, by simp, by simp [h1, k1], k2, k3⟩
      · cases e
    · cases e
  | j :: p, .c _, l, cs, o, l', y, h, hl, e => by simp [D.at?] at e
  | j :: p, .sl _ _, l, cs, o, l', y, h, hl, e => by simp [D.at?] at e
  | j :: p, .rp _ _ _, l, cs, o, l', y, h, hl, e => by simp [D.at?] at e
  | j :: p, .fn _ _, l, cs, o, l', y, h, hl, e => by simp [D.at?] at e

theorem VC_at {β : Beta} {S : Nat → Prop} {w : World} : ∀ (p : List Nat) (x : V) (l : Lay) (cs : List Value) (o : Nat) (l' : Lay) (y : V), VC β S w x cs → cs.length = l.len → x.at? l p = some (o, l', y) →
    ∃ c1 c2 c3, cs = c1 ++ c2 ++ c3 ∧ c1.length = o ∧ c2.length = l'.len ∧ VC β S w y c2 ∧
      ∀ z x' d2, x.put? p z = some x' → VC β S w z d2 → d2.length = l'.len → VC β S w x' (c1 ++ d2 ++ c3)
  | [], x, l, cs, o, l', y, h, hl, e => by
    have e' : some (0, l, x) = some (o, l', y) := by cases x <;> exact e
    simp only [Option.some.injEq, Prod.mk.injEq] at e'
    obtain ⟨rfl, rfl, rfl⟩ := e'
    refine ⟨[], cs, [], by simp, rfl, hl, h, fun z x' d2 hp hz hl => ?_⟩
    have hp' : some z = some x' := by cases x <;> first | exact hp | (rename_i q; cases q <;> exact hp)
    injection hp' with hp'
    subst hp'
    simpa using hz
  | j :: p, .agg fs vs, l, cs, o, l', y, h, hl, e => by
    simp only [V.at?] at e
    split at e
    · rename_i l1 x1 e1 e2
      split at e
      · rename_i o2 l2 y2 e3
        simp only [Option.some.injEq, Prod.mk.injEq] at e
        obtain ⟨rfl, rfl, rfl⟩ := e
        simp only [VC] at h
        obtain ⟨c1, c2, c3, rfl, h1, h2, h3, h4⟩ := VCs_get vs fs cs j l1 x1 h e1 e2
        obtain ⟨d1, d2, d3, rfl, k1, k2, k3, k4⟩ := VC_at p x1 l1 c2 _ _ _ h3 h2 e3
        refine ⟨c1 ++ d1, d2, d3 ++ c3, by simp, by simp [h1, k1], k2, k3, fun z x' dd hp hz hl => ?_⟩
        simp only [V.put?, e2] at hp
        split at hp
        · rename_i x'' e4
          injection hp with hp
          subst hp
          simp only [VC]
          have := h4 x'' (d1 ++ dd ++ d3) (k4 z x'' dd e4 hz hl) (by simp at h2 ⊢; omega)
          simpa using this
        · cases hp
      · cases e
    · cases e
  | j :: p, .d (.agg fs ds), l, cs, o, l', y, h, hl, e => by
    simp only [V.at?, D.at?] at e
    split at e
    · rename_i o0 l0 y0 e0
      simp only [Option.some.injEq, Prod.mk.injEq] at e
      obtain ⟨rfl, rfl, rfl⟩ := e
      split at e0
      · rename_i l1 x1 e1 e2
        split at e0
        · rename_i o2 l2 y2 e3
          simp only [Option.some.injEq, Prod.mk.injEq] at e0
          obtain ⟨rfl, rfl, rfl⟩ := e0
          simp only [VC, DC] at h
          obtain ⟨c1, c2, c3, rfl, h1, h2, h3, h4⟩ := VCs_get (β := β) (ds.map V.d) fs cs j l1 (.d x1) ((VCs_d ds fs cs).2 h) e1 (by simp [e2])
          have e3' : (V.d x1).at? l1 p = some (o2, l2, .d y2) := by
            cases p with
            | nil =>
              have e3' : some (0, l1, x1) = some (o2, l2, y2) := by cases x1 <;> exact e3
              simp only [Option.some.injEq, Prod.mk.injEq] at e3'
              obtain ⟨rfl, rfl, rfl⟩ := e3'
              rfl
            | cons j' p' => simp only [V.at?, e3]
          obtain ⟨d1, d2, d3, rfl, k1, k2, k3, k4⟩ := VC_at p (.d x1) l1 c2 _ _ _ h3 h2 e3'
          refine ⟨c1 ++ d1, d2, d3 ++ c3, by simp, by simp [h1, k1], k2, k3, fun z x' dd hp hz hl => ?_⟩
          simp only [V.put?, e2] at hp
          split at hp
          · rename_i x'' e4
            injection hp with hp
            subst hp
            simp only [VC]
            have := h4 x'' (d1 ++ dd ++ d3) (k4 z x'' dd e4 hz hl) (by simp at h2 ⊢; omega)
            simpa using this
          · cases hp
        · cases e0
      · cases e0
    · cases e
  | j :: p, .any, l, cs, o, l', y, h, hl, e => by simp [V.at?] at e
  | j :: p, .tup _, l, cs, o, l', y, h, hl, e => by simp [V.at?] at e
  | j :: p, .ref _ _ _ _, l, cs, o, l', y, h, hl, e => by simp [V.at?] at e
  | j :: p, .ptr _ _ _ _, l, cs, o, l', y, h, hl, e => by simp [V.at?] at e
  | j :: p, .fn _ _, l, cs, o, l', y, h, hl, e => by simp [V.at?] at e
  | j :: p, .d (.c _), l, cs, o, l', y, h, hl, e => by simp [V.at?, D.at?] at e
  | j :: p, .d (.sl _ _), l, cs, o, l', y, h, hl, e => by simp [V.at?, D.at?] at e
  | j :: p, .d (.rp _ _ _), l, cs, o, l', y, h, hl, e => by simp [V.at?, D.at?] at e
  | j :: p, .d (.fn _ _), l, cs, o, l', y, h, hl, e => by simp [V.at?, D.at?] at e

/-! ### All cells are plain -/
mutual
theorem DC_scalar {S : Nat → Prop} {w : World} : ∀ (x : D) (cs : List Value), DC S w x cs → ∀ u ∈ cs, Value.scalar u = true
  | .c x, cs, h => by
    simp only [DC] at h
    obtain ⟨rfl, hs⟩ := h
    simpa using hs
  | .agg fs ds, cs, h => by
    simp only [DC] at h
    exact DCs_scalar ds fs cs h
  | .sl l xs, cs, h => by
    simp only [DC] at h
    obtain ⟨A, n, cap, rfl, _⟩ := h
    simp [Value.scalar]
  | .rp l x p, cs, h => by
    simp only [DC] at h
    obtain ⟨b, off, ds, o, l', _, rfl, _⟩ := h
    simp [Value.scalar]
  | .fn k caps, cs, h => by
    simp only [DC] at h
    obtain ⟨xs, rfl, _⟩ := h
    simp [Value.scalar]
theorem DCs_scalar {S : Nat → Prop} {w : World} : ∀ (ds : List D) (fs : List Lay) (cs : List Value), DCs S w fs ds cs → ∀ u ∈ cs, Value.scalar u = true
  | [], fs, cs, h => by
    simp only [DCs] at h
    obtain ⟨_, rfl⟩ := h
    simp
  | d :: ds, fs, cs, h => by
    simp only [DCs] at h
    obtain ⟨f, fr, c1, c2, _, rfl, _, h4, h5⟩ := h
    intro u hu
    rcases List.mem_append.1 hu with hu | hu
    · exact DC_scalar d c1 h4 u hu
    · exact DCs_scalar ds fr c2 h5 u hu
end
mutual
theorem VC_scalar {β : Beta} {S : Nat → Prop} {w : World} : ∀ (x : V) (cs : List Value), VC β S w x cs → ∀ u ∈ cs, Value.scalar u = true
  | .any, cs, h => by simpa only [VC] using h
  | .d x, cs, h => by
    simp only [VC] at h
    exact DC_scalar x cs h
  | .agg fs ds, cs, h => by
    simp only [VC] at h
    exact VCs_scalar ds fs cs h
  | .tup _, cs, h => by simp only [VC] at h
  | .ref l i off n, cs, h => by
    simp only [VC] at h
    rcases h with ⟨_, rfl, _⟩ | ⟨b, C, _, rfl, _⟩ <;> simp [Value.scalar]
  | .ptr l i k p, cs, h => by
    simp only [VC] at h
    obtain ⟨b, C, o, l', _, _, rfl⟩ := h
    simp [Value.scalar]
  | .fn k caps, cs, h => by
    simp only [VC] at h
    obtain ⟨xs, rfl, _⟩ := h
    simp [Value.scalar]
theorem VCs_scalar {β : Beta} {S : Nat → Prop} {w : World} : ∀ (ds : List V) (fs : List Lay) (cs : List Value), VCs β S w fs ds cs → ∀ u ∈ cs, Value.scalar u = true
  | [], fs, cs, h => by
    simp only [VCs] at h
    obtain ⟨_, rfl⟩ := h
    simp
  | d :: ds, fs, cs, h => by
    simp only [VCs] at h
    obtain ⟨f, fr, c1, c2, _, rfl, _, h4, h5⟩ := h
    intro u hu
    rcases List.mem_append.1 hu with hu | hu
    · exact VC_scalar d c1 h4 u hu
    · exact VCs_scalar ds fr c2 h5 u hu
end
theorem oneCell_of_scalar {u : Value} (h : Value.scalar u = true) : u.oneCell' = true := by cases u <;> first | rfl | simp [Value.scalar] at h

end Go.Eng

/- The engine: structs written out. -/
import Derived.Test.YtleahipnknainaaDoorEng18
set_option linter.unusedVariables false
set_option linter.unusedSimpArgs false
namespace Go.Eng

/-- Where the parts of a struct lie. -/
def tyPlaces (P : Program) (t : TypeId) : Option (List (Nat × Nat)) := match P.underlying t with
  | some (.struct fs) => fs.toList.mapM (fun fd => (tySize P fd.type).map fun z => (fd.offset, z))
  | _ => none
def layPlaces : Nat → List Lay → List (Nat × Nat)
  | _, [] => []
  | o, f :: fr => (o, f.len) :: layPlaces (o + f.len) fr
theorem layPlaces_get : ∀ (fs : List Lay) (o j : Nat) (l : Lay), fs[j]? = some l → (layPlaces o fs)[j]? = some (o + Lay.lens (fs.take j), l.len)
  | [], o, j, l, h => by simp at h
  | f :: fr, o, 0, l, h => by simp at h; subst h; simp [layPlaces, Lay.lens]
  | f :: fr, o, j + 1, l, h => by
    simp at h
    have := layPlaces_get fr (o + f.len) j l h
    simp [layPlaces, this, Lay.lens, Nat.add_assoc]

section
variable {P : Program} {C : Cx} {n : Nat} {f : Fr} {L : Hp} {dst : Option Tmp} {ty : TypeId} {pos : String} {after : Array Edge} {g : Option (Nat × Bool)}

theorem places_run {t : TypeId} {fields : Array Go.Field} : ∀ {l : List Go.Field} {pl : List (Nat × Nat)}, l.mapM (fun fd => (tySize P fd.type).map fun z => (fd.offset, z)) = some pl → ∀ w, (l.mapM (fun fd => (do pure (fd.offset, ← sizeOf fd.type) : Sem (Nat × Nat)))).run P w = .ok pl w
  | [], pl, h, w => by
    simp only [List.mapM_nil, Option.pure_def, Option.some.injEq] at h
    subst h; rfl
  | fd :: l, pl, h, w => by
    simp only [List.mapM_cons, Option.bind_eq_bind, Option.pure_def, Option.bind_eq_some_iff] at h
    obtain ⟨q, hq, pl', hpl, h⟩ := h
    obtain ⟨z, hz, rfl⟩ := Option.map_eq_some_iff.1 hq
    injection h with h
    subst h
    have := places_run (t := t) (fields := fields) hpl w
    simp only [List.mapM_cons, Sem.run_bind, run_sizeOf' hz, Result.andThen, Sem.run_pure, this]

/-- Parts put into their places, one after another. -/
inductive BS (f : Fr) (fs : List Lay) : List V → List (Nat × Operand) → List V → Prop
  | nil {vs : List V} : BS f fs vs [] vs
  | cons {j : Nat} {x : Operand} {v : V} {l : Lay} {vs vs' : List V} {r : List (Nat × Operand)} : nfV (ev f x) = some v → fs[j]? = some l → v.len? = l.len → BS f fs (vs.set j v) r vs' → BS f fs vs ((j, x) :: r) vs'

theorem nfV_known {v u : V} (h : nfV v = some u) : u.known = true := by
  cases v <;> simp only [nfV, Option.some.injEq] at h <;> first | (subst h; rfl) | cases h

theorem BS_fill {a : Act} {w : World} {β : Beta} {S : Nat → Prop} (hr : Rel C n f L a w β S) {fs : List Lay} : ∀ {vs : List V} {ps : List (Nat × Operand)} {vs' : List V}, BS f fs vs ps vs' → ∀ cells : Array Value, VCs β S w fs vs cells.toList →
    ∃ cells', Instr.fill (fun i => (layPlaces 0 fs)[i]?) cells (ps.map fun q => (q.1, a.eval q.2)) = some cells' ∧ VCs β S w fs vs' cells'.toList
  | _, _, _, .nil, cells, h => ⟨cells, rfl, h⟩
  | _, _, _, .cons (j := j) (x := x) (v := v) (l := l) (vs := vs) hv hl hlen k, cells, h => by
    have hk := nfV_known hv
    have hv := nf hv
    have hvr := rel_ev hr x
    rw [hv] at hvr
    have hne : v ≠ .any := by rintro rfl; cases hk
    have hv0 := known_VR0 hvr hk
    rcases hv0 with hv0 | ⟨hv0, _⟩
    · exact absurd hv0 hne
    · have hcl := (VC_len hne hv0).trans hlen
      have hjl : j < vs.length := by
        have := VCs_len _ _ _ h
        have := lt_of_get hl
        omega
      obtain ⟨d1, dm, d3, e1, e2, e3, e4, e5⟩ := VCs_get vs fs cells.toList j l vs[j] h hl (by simp [hjl])
      have hnew := e5 v _ hv0 hcl
      simp only [List.map_cons, Instr.fill, layPlaces_get fs 0 j l hl]
      have hsz : cells.size = d1.length + dm.length + d3.length := by rw [← Array.length_toList, e1]; simp; omega
      have hcs : (a.eval x).cells.size = l.len := by simpa using hcl
      have hno : ¬ ((a.eval x).cells.size ≠ l.len ∨ 0 + Lay.lens (fs.take j) + (a.eval x).cells.size > cells.size) := by
        rintro (h1 | h1)
        · exact h1 hcs
        · rw [hsz, hcs, e2, e3] at h1; omega
      rw [if_neg (by simpa using hno)]
      have hf : ((a.eval x).cells.zipIdx.foldl (fun (cs : Array Value) (q : Value × Nat) => cs.setIfInBounds (0 + Lay.lens (fs.take j) + q.2) q.1) cells).toList = d1 ++ (a.eval x).cells.toList ++ d3 := by
        have := foldl_put (0 + Lay.lens (fs.take j)) (a.eval x).cells.toList 0 cells (by rw [hcl, hsz, e2, e3]; omega)
        rw [← Array.foldl_toList, Array.toList_zipIdx]
        simp only [Nat.add_zero] at this
        rw [this, e1]
        have t1 : (d1 ++ dm ++ d3).take (0 + Lay.lens (fs.take j)) = d1 := by
          rw [Nat.zero_add, ← e2, List.append_assoc, List.take_left']
          rfl
        have t2 : (d1 ++ dm ++ d3).drop (0 + Lay.lens (fs.take j) + (a.eval x).cells.toList.length) = d3 := by
          rw [Nat.zero_add, hcl, ← e2, ← e3, ← List.length_append]
          exact List.drop_left' rfl
        rw [t1, t2]
      obtain ⟨cells', q1, q2⟩ := BS_fill hr k _ (by rw [hf]; exact hnew)
      exact ⟨cells', q1, q2⟩

theorem Ev_build {t : TypeId} {parts : Array (Nat × Operand)} {fs : List Lay} {zs : List D} {z : Value} {vs : List V} (hz : tyZero P t = some (some z)) (hzc : cellsDs fs zs = some z.cells.toList) (hp : tyPlaces P t = some (layPlaces 0 fs)) (hb : BS f fs (zs.map V.d) parts.toList vs) :
    Ev P C n ⟨dst, .build t parts, ty, pos, after, g⟩ f L (.agg fs vs) := by
  intro a w β S hr
  have h0 : VCs β S w fs (zs.map V.d) z.cells.toList := by
    have := VC_cells (β := β) (S := S) (w := w) (x := .agg fs zs) (cs := z.cells.toList) (by simpa only [cellsD] using hzc)
    simp only [VC, DC] at this
    have key : ∀ (zs : List D) (fs : List Lay) (cs : List Value), DCs S w fs zs cs → VCs β S w fs (zs.map V.d) cs := by
      intro zs
      induction zs with
      | nil => intro fs cs h; simpa only [List.map_nil, DCs, VCs] using h
      | cons d zs ih =>
        intro fs cs h
        simp only [List.map_cons, DCs, VCs, VC] at h ⊢
        obtain ⟨f, fr, c1, c2, h1, h2, h3, h4, h5⟩ := h
        exact ⟨f, fr, c1, c2, h1, h2, h3, h4, ih fr c2 h5⟩
    exact key zs fs _ this
  obtain ⟨cells', q1, q2⟩ := BS_fill hr hb z.cells h0
  unfold tyPlaces at hp
  split at hp
  · rename_i fields hu
    have hpl := places_run (P := P) (t := t) (fields := fields) hp w
    have hrun : (execOp a.eval ⟨dst, .build t parts, ty, pos, after, g⟩).run P w = .ok (.value (.agg cells')) w := by
      have hm : (fields.mapM (fun fd => (do pure (fd.offset, ← sizeOf fd.type) : Sem (Nat × Nat)))).run P w = .ok (layPlaces 0 fs).toArray w := by
        rw [Array.mapM_eq_mapM_toList, map_eq_pure_bind]
        simp only [Sem.run_bind, hpl, Result.andThen, Sem.run_pure]
      have hfill : Instr.fill (fun i => (layPlaces 0 fs).toArray[i]?) z.cells (parts.map fun (i, x) => (i, a.eval x)).toList = some cells' := by
        rw [Array.toList_map]
        simpa using q1
      simp only [execOp, Instr.build, Sem.run_bind, zeroValue_run hz, run_underlying hu, Result.andThen, hm, Sem.run_pure]
      rw [hfill]
      rfl
    refine ⟨_, hrun, .inr ⟨?_, rfl⟩⟩
    simp only [VC]
    exact q2
  · cases hp
theorem BS_congr {f2 : Fr} {fs : List Lay} {vs vs' : List V} {ps : List (Nat × Operand)} (h : BS f fs vs ps vs') : (∀ q ∈ ps, ev f2 q.2 = ev f q.2) → BS f2 fs vs ps vs' := by
  induction h with
  | nil => intro _; exact .nil
  | cons h1 h2 h3 _ ih => intro hq; exact .cons (by have := hq _ (List.mem_cons_self ..); simp only at this; rw [this]; exact h1) h2 h3 (ih fun q hq' => hq q (by simp [hq']))
theorem EA_build {t : TypeId} {parts : Array (Nat × Operand)} {fs : List Lay} {zs : List D} {z : Value} {vs : List V} (hz : tyZero P t = some (some z)) (hzc : cellsDs fs zs = some z.cells.toList) (hp : tyPlaces P t = some (layPlaces 0 fs)) (hb : BS f fs (zs.map V.d) parts.toList vs) :
    EvA P n ⟨dst, .build t parts, ty, pos, after, g⟩ f L (.agg fs vs) := fun C f2 hf L2 hL => Ev_build hz hzc hp (BS_congr hb fun q hq => hf q.2 (by
      simp only [Op.operands]
      simp only [List.mem_toArray, List.mem_map]
      exact ⟨q, hq, rfl⟩))
end
end Go.Eng

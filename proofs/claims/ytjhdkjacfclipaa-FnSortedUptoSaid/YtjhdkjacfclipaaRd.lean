/- The join: what an argument reads as, in our words. -/
import Derived.Test.YtjhdkjacfclipaaJn
import Derived.Test.YtjhdkjacfclipaaMt
import Derived.ChangeArms
import Derived.Test.YtjhdkjacfclipaaRows
set_option linter.unusedVariables false
set_option linter.unusedSimpArgs false
namespace Go.Proofs.Ytjhdkjacfclipaa
open Go.Eng

abbrev below (w : World) : Nat → Prop := fun b => b < w.heap.size

section
variable {H : Type} {enc : TypeId × Value → H} {P : Program} {w : World} {sp : Nat → Bool} {held : Bool}

theorem mapM_get {A B : Type} {F : A → Option B} : ∀ {l : List A} {r : List B}, l.mapM F = some r → ∀ (i : Nat) (x : A), l[i]? = some x → ∃ y, r[i]? = some y ∧ F x = some y
  | [], r, h, i, x, hx => by simp at hx
  | a :: l, r, h, i, x, hx => by
    simp only [List.mapM_cons, Option.bind_eq_bind, Option.pure_def, Option.bind_eq_some_iff] at h
    obtain ⟨y, hy, r', hr, e⟩ := h
    injection e with e
    subst e
    cases i with
    | zero => simp at hx; subst hx; exact ⟨y, rfl, hy⟩
    | succ i => simp at hx; simpa using mapM_get hr i x hx
theorem mapM_len {A B : Type} {F : A → Option B} : ∀ {l : List A} {r : List B}, l.mapM F = some r → r.length = l.length
  | [], r, h => by simp at h; subst h; rfl
  | a :: l, r, h => by
    simp only [List.mapM_cons, Option.bind_eq_bind, Option.pure_def, Option.bind_eq_some_iff] at h
    obtain ⟨y, hy, r', hr, e⟩ := h
    injection e with e
    subst e
    simp [mapM_len hr]

theorem cells_of {base : Nat} {a : Addr} {m : Nat} {cs : List Value} (h : w.cells? base a m = some cs) : cs.length = m ∧ ∀ (j : Nat) (x : Value), cs[j]? = some x → w.cell? (a.add j) = some x := by
  unfold World.cells? at h
  split at h
  · have hl := mapM_len h
    refine ⟨by simpa using hl, fun j x hx => ?_⟩
    have hj := lt_of_get hx
    rw [hl] at hj
    have hj : j < m := by simpa using hj
    obtain ⟨y, h1, h2⟩ := mapM_get h j j (List.getElem?_range hj)
    rw [hx] at h1
    injection h1 with h1
    subst h1
    exact h2
  · cases h
/-- A list of things that there are, place by place. -/
theorem choose_list {A : Type} {p : Nat → A → Prop} : ∀ n : Nat, (∀ i, i < n → ∃ x, p i x) → ∃ l : List A, l.length = n ∧ ∀ i x, l[i]? = some x → p i x
  | 0, _ => ⟨[], rfl, fun i x h => by simp at h⟩
  | n + 1, h => by
    obtain ⟨l, hl, hp⟩ := choose_list n fun i hi => h i (by omega)
    obtain ⟨x, hx⟩ := h n (by omega)
    refine ⟨l ++ [x], by simp [hl], fun i y hy => ?_⟩
    by_cases hi : i < n
    · rw [List.getElem?_append_left (by omega)] at hy
      exact hp i y hy
    · have hi2 := lt_of_get hy
      simp [hl] at hi2
      have : i = n := by omega
      subst this
      rw [List.getElem?_append_right (by omega)] at hy
      simp [hl] at hy
      subst hy
      exact hx
/-- Cells of a slice's elements, laid end to end. -/
theorem DCs_rows {S : Nat → Prop} {l : Lay} : ∀ {ds : List D} {css : List (List Value)}, css.length = ds.length → (∀ (i : Nat) (d : D) (cs : List Value), ds[i]? = some d → css[i]? = some cs → DC S w d cs ∧ cs.length = l.len) → DCs S w (List.replicate ds.length l) ds css.flatten
  | [], [], _, _ => by simp [DCs]
  | [], _ :: _, h, _ => by simp at h
  | _ :: _, [], h, _ => by simp at h
  | d :: ds, cs :: css, h, hp => by
    obtain ⟨h1, h2⟩ := hp 0 d cs rfl rfl
    have := DCs_rows (S := S) (l := l) (ds := ds) (css := css) (by simpa using h) fun i d' cs' e1 e2 => hp (i + 1) d' cs' (by simpa using e1) (by simpa using e2)
    simp only [List.length_cons, List.replicate_succ, List.flatten_cons, DCs]
    exact ⟨_, _, _, _, rfl, rfl, h2, h1, this⟩
theorem flatten_get {l : Nat} (hl : 0 < l) : ∀ {css : List (List Value)}, (∀ c ∈ css, c.length = l) → ∀ (j : Nat) (x : Value), css.flatten[j]? = some x → ∃ c, css[j / l]? = some c ∧ c[j % l]? = some x
  | [], _, j, x, h => by simp at h
  | c :: css, hc, j, x, h => by
    have hcl := hc c (by simp)
    rw [List.flatten_cons] at h
    by_cases hj : j < l
    · rw [List.getElem?_append_left (by omega)] at h
      rw [Nat.div_eq_of_lt hj, Nat.mod_eq_of_lt hj]
      exact ⟨c, rfl, h⟩
    · rw [List.getElem?_append_right (by omega), hcl] at h
      obtain ⟨c', h1, h2⟩ := flatten_get hl (fun c hc' => hc c (by simp [hc'])) (j - l) x h
      have e1 : j / l = (j - l) / l + 1 := by rw [Nat.div_eq_sub_div hl (by omega)]
      have e2 : j % l = (j - l) % l := by rw [Nat.mod_eq_sub_mod (by omega)]
      rw [e1, e2]
      exact ⟨c', by simpa using h1, h2⟩
/-- The types that a term is made of. -/
structure TermTy (P : Program) (tT tS tI tB : TypeId) : Prop where
  uT : ∃ f0 f1 f2 f3 : Field, P.underlying tT = some (.struct #[f0, f1, f2, f3]) ∧ f0.type = tI ∧ f0.offset = 0 ∧ f1.type = tB ∧ f1.offset = 1 ∧ f2.type = tI ∧ f2.offset = 2 ∧ f3.type = tS ∧ f3.offset = 3
  uS : P.underlying tS = some (.slice tT)
  uI : P.underlying tI = some (.int .i64)
  uB : P.underlying tB = some .string
  cT : P.cellsOf tT = 4
  cI : P.cellsOf tI = 1
  cB : P.cellsOf tB = 1
  cS : P.cellsOf tS = 1

theorem bulkAll_mem {d : DataW H} : ∀ {l : List (DataW H)} {i : Nat}, l[i]? = some d → Rows.uptoBulk d ≤ Rows.uptoBulkAll l
  | [], i, h => by simp at h
  | x :: l, 0, h => by simp at h; subst h; simp only [Rows.uptoBulkAll]; omega
  | x :: l, i + 1, h => by
    have := bulkAll_mem (l := l) (i := i) (by simpa using h)
    simp only [Rows.uptoBulkAll]
    omega
theorem bulk_lists : ∀ {ts : List T} {l : List (DataW H)}, ts.length = l.length → (∀ (i : Nat) (t : T) (d : DataW H), ts[i]? = some t → l[i]? = some d → bulk t + 1 ≤ (Rows.uptoBulk d : Int)) → ts.length + bulkL ts ≤ (Rows.uptoBulkAll l : Int)
  | [], [], _, _ => by simp [bulkL, Rows.uptoBulkAll]
  | [], _ :: _, h, _ => by simp at h
  | _ :: _, [], h, _ => by simp at h
  | t :: ts, d :: l, h, hp => by
    have h1 := hp 0 t d rfl rfl
    have h2 := bulk_lists (ts := ts) (l := l) (by simpa using h) fun i t' d' e1 e2 => hp (i + 1) t' d' (by simpa using e1) (by simpa using e2)
    simp only [List.length_cons, bulkL, Rows.uptoBulkAll]
    push_cast
    omega

theorem add_zero_addr (a : Addr) : a.add 0 = a := by simp [Addr.add]
theorem add_add_addr (a : Addr) (h : a.spot = none) (i j : Nat) : (a.add i).add j = ⟨a.block, a.off + (i + j), none⟩ := by
  cases a
  simp only at h
  subst h
  unfold Addr.add
  split <;> split <;> simp_all <;> omega
theorem cell_spot {a : Addr} {x : Value} (h : w.cell? a = some x) : a.spot = none ∧ a.block < w.heap.size := by
  unfold World.cell? at h
  split at h
  · rename_i e
    refine ⟨?_, (Array.getElem?_eq_some_iff.1 e).1⟩
    cases hs : a.spot with
    | none => rfl
    | some v => simp [hs] at h
  · cases h

set_option maxRecDepth 8000 in
theorem read_term {tT tS tI tB : TypeId} (ty : TermTy P tT tS tI tB) : ∀ (n : Nat) (cs : List Value) (x : DataW H × List MemPlace), DataW.trod enc P w 0 sp held n tT cs = some x → Rows.uptoBulk x.1 ≤ 1048576 →
    ∃ t : T, DC (below w) w (inj t) cs ∧ cs.length = 4 ∧ bulk t + 1 ≤ (Rows.uptoBulk x.1 : Int) := by
  intro n
  induction n using Nat.strongRecOn with
  | _ n ih =>
    intro cs x h hb
    obtain ⟨f0, f1, f2, f3, hu, t0, o0, t1, o1, t2, o2, t3, o3⟩ := ty.uT
    obtain ⟨xs, m, rfl, rfl, hcl, hxl, hx⟩ := DataW.trod_struct hu h
    rw [ty.cT] at hcl
    match xs, hxl with
    | [x0, x1, x2, x3], _ =>
      match cs, hcl with
      | [c0, c1, c2, c3], _ =>
        have h0 := hx 0 f0 rfl
        have h1 := hx 1 f1 rfl
        have h2 := hx 2 f2 rfl
        have h3 := hx 3 f3 rfl
        rw [t0, o0, ty.cI] at h0
        rw [t1, o1, ty.cB] at h1
        rw [t2, o2, ty.cI] at h2
        rw [t3, o3, ty.cS] at h3
        obtain ⟨k, e0, rfl, _⟩ := DataW.trod_int ty.uI h0
        obtain ⟨s, e1, rfl, _⟩ := DataW.trod_string ty.uB h1
        obtain ⟨q, e2, rfl, _⟩ := DataW.trod_int ty.uI h2
        simp only [List.drop_succ_cons, List.drop_zero, List.take_succ_cons, List.take_zero, List.cons.injEq, and_true] at e0 e1 e2 h3
        subst e0; subst e1; subst e2
        have hbx : Rows.uptoBulk x3.1 + s.size + 4 ≤ Rows.uptoBulk (DataW.agg (H := H) [.lit (.int .i64 k), .lit (.string s.data.toList), .lit (.int .i64 q), x3.1]) := by
          simp only [Rows.uptoBulk, Rows.uptoBulkAll]
          have : s.data.toList.length = s.size := Array.length_toList
          omega
        have hbt : Rows.uptoBulk x3.1 ≤ 1048576 := by
          have : Rows.uptoBulk (DataW.agg (H := H) [.lit (.int .i64 k), .lit (.string s.data.toList), .lit (.int .i64 q), x3.1]) ≤ 1048576 := hb
          omega
        have kids : ∃ ks : List T, DC (below w) w (.sl LT (injs ks)) [c3] ∧ ks.length + bulkL ks + 1 ≤ (Rows.uptoBulk x3.1 : Int) := by
          rcases DataW.trod_slice ty.uS h3 with ⟨e3, rfl⟩ | ⟨a, len, cap, elems, rest, m', rfl, e3, rfl, hba, hlc, hcm, hel, hall, _, _⟩
          · refine ⟨[], ?_, by simp [bulkL, Rows.uptoBulk]⟩
            rw [e3]
            simp only [injs, DC]
            exact ⟨none, 0, 0, rfl, rfl, Nat.le_refl _, Nat.zero_le _, .inl rfl⟩
          · rw [ty.cT] at hall
            have hbe : Rows.uptoBulkAll (elems.map (·.1)) + 1 ≤ Rows.uptoBulk (DataW.slice (elems.map (·.1)) (rest.map (·.1))) := by simp only [Rows.uptoBulk]; omega
            obtain ⟨zs, hzl, hz⟩ := choose_list (A := T × List Value) (p := fun i z => DC (below w) w (inj z.1) z.2 ∧ z.2.length = 4 ∧ w.cells? 0 (a.add (i * 4)) 4 = some z.2 ∧ ∀ y, elems[i]? = some y → bulk z.1 + 1 ≤ (Rows.uptoBulk y.1 : Int)) len fun i hi => by
              obtain ⟨y, hy⟩ : ∃ y, elems[i]? = some y := ⟨_, List.getElem?_eq_getElem (by omega)⟩
              have := hall i hi
              rw [hy, Option.bind_eq_some_iff] at this
              obtain ⟨csi, k1, k2⟩ := this
              have hyb := bulkAll_mem (l := elems.map (·.1)) (i := i) (d := y.1) (by simp [hy])
              have hlast : Rows.uptoBulk (DataW.slice (elems.map (·.1)) (rest.map (·.1))) ≤ 1048576 := hbt
              obtain ⟨t, q1, q2, q3⟩ := ih m' (by omega) csi y k2 (by omega)
              exact ⟨(t, csi), q1, q2, k1, fun y' hy' => by rw [hy] at hy'; injection hy' with hy'; subst hy'; exact q3⟩
            have hkb := bulk_lists (ts := zs.map (·.1)) (l := elems.map (·.1)) (by simp [hzl, hel]) fun i t d e1 e2 => by
              simp only [List.getElem?_map, Option.map_eq_some_iff] at e1 e2
              obtain ⟨z, z1, rfl⟩ := e1
              obtain ⟨y, y1, rfl⟩ := e2
              exact (hz i z z1).2.2.2 y y1
            have hnn := bulkL_nn (zs.map (·.1))
            have hll : (Rows.uptoBulkAll (elems.map (·.1)) : Int) + 1 ≤ (Rows.uptoBulk (DataW.slice (elems.map (·.1)) (rest.map (·.1))) : Int) := by exact_mod_cast hbe
            refine ⟨zs.map (·.1), ?_, by
              show _ ≤ ((Rows.uptoBulk (DataW.slice (elems.map (·.1)) (rest.map (·.1))) : Nat) : Int)
              omega⟩
            rw [e3]
            simp only [DC]
            refine ⟨some a, len, cap, rfl, by simp [hzl], hlc, ?_, ?_⟩
            · have hlast0 : Rows.uptoBulk (DataW.slice (elems.map (·.1)) (rest.map (·.1))) ≤ 1048576 := hbt
              have hlast : (Rows.uptoBulk (DataW.slice (elems.map (·.1)) (rest.map (·.1))) : Int) ≤ 1048576 := by omega
              simp only [List.length_map, hzl] at hkb
              simp only [lim]
              omega
            · by_cases h0 : len = 0
              · exact .inl h0
              · refine .inr ⟨a.block, a.off, (zs.map (·.2)).flatten, ?_, ?_, ?_, ?_⟩
                all_goals
                  obtain ⟨z0, hz0⟩ : ∃ z, zs[0]? = some z := ⟨_, List.getElem?_eq_getElem (by omega)⟩
                  obtain ⟨_, l0, cc0, _⟩ := hz 0 z0 hz0
                  obtain ⟨cl, cg⟩ := cells_of cc0
                  obtain ⟨v0, hv0⟩ : ∃ v, z0.2[0]? = some v := ⟨_, List.getElem?_eq_getElem (by omega)⟩
                  have hcell := cg 0 v0 hv0
                  rw [Nat.zero_mul, add_zero_addr, add_zero_addr] at hcell
                  obtain ⟨hsp, hlt⟩ := cell_spot hcell
                · cases a; simp only at hsp; subst hsp; rfl
                · exact hlt
                · have := DCs_rows (S := below w) (w := w) (l := LT) (ds := injs (zs.map (·.1))) (css := zs.map (·.2)) (by simp) fun i d cs e1 e2 => by
                    rw [injs_map] at e1
                    simp only [List.getElem?_map, Option.map_eq_some_iff] at e1 e2
                    obtain ⟨t, ⟨z, z1, rfl⟩, rfl⟩ := e1
                    obtain ⟨z', z1', rfl⟩ := e2
                    rw [z1] at z1'
                    injection z1' with z1'
                    subst z1'
                    exact ⟨(hz i z z1).1, (hz i z z1).2.1⟩
                  exact this
                · intro j x hx
                  obtain ⟨c, h5, h6⟩ := flatten_get (l := 4) (by omega) (fun c hc => by
                    obtain ⟨z, hz', rfl⟩ := List.mem_map.1 hc
                    obtain ⟨i, hi⟩ := List.getElem?_of_mem hz'
                    exact (hz i z hi).2.1) j x hx
                  simp only [List.getElem?_map, Option.map_eq_some_iff] at h5
                  obtain ⟨z, z1, rfl⟩ := h5
                  have := (cells_of (hz _ z z1).2.2.1).2 _ x h6
                  rw [add_add_addr a hsp] at this
                  have e : j / 4 * 4 + j % 4 = j := by omega
                  rw [e] at this
                  exact this
        obtain ⟨ks, hk1, hk2⟩ := kids
        refine ⟨.mk k s q ks, ?_, rfl, ?_⟩
        · unfold inj DC
          exact ⟨_, _, [.int .i64 k], [.string s, .int .i64 q, c3], rfl, rfl, rfl, by unfold DC; exact ⟨rfl, rfl⟩, _, _, [.string s], [.int .i64 q, c3], rfl, rfl, rfl, by unfold DC; exact ⟨rfl, rfl⟩, _, _, [.int .i64 q], [c3], rfl, rfl, rfl, by unfold DC; exact ⟨rfl, rfl⟩, _, _, [c3], [], rfl, rfl, rfl, hk1, rfl, rfl⟩
        · simp only [bulk, bulkS_eq]
          have : (Rows.uptoBulk x3.1 : Int) + s.size + 4 ≤ (Rows.uptoBulk (DataW.agg (H := H) [.lit (.int .i64 k), .lit (.string s.data.toList), .lit (.int .i64 q), x3.1]) : Int) := by exact_mod_cast hbx
          show _ ≤ (Rows.uptoBulk (DataW.agg (H := H) [.lit (.int .i64 k), .lit (.string s.data.toList), .lit (.int .i64 q), x3.1]) : Int)
          omega

set_option maxRecDepth 8000 in
theorem read_clause {tC tT tS tI tB : TypeId} (ty : TermTy P tT tS tI tB) (hu : ∃ f0 f1 f2 : Field, P.underlying tC = some (.struct #[f0, f1, f2]) ∧ f0.type = tT ∧ f0.offset = 0 ∧ f1.type = tT ∧ f1.offset = 4 ∧ f2.type = tB ∧ f2.offset = 8) (hc : P.cellsOf tC = 9) (n : Nat) (cs : List Value) (x : DataW H × List MemPlace) (h : DataW.trod enc P w 0 sp held n tC cs = some x) (hb : Rows.uptoBulk x.1 ≤ 1048576) :
    ∃ c : Cl, DC (below w) w (injC c) cs ∧ bulk c.h + bulk c.b + c.f.size + 2 ≤ (Rows.uptoBulk x.1 : Int) := by
  obtain ⟨f0, f1, f2, hu, t0, o0, t1, o1, t2, o2⟩ := hu
  obtain ⟨xs, m, rfl, rfl, hcl, hxl, hx⟩ := DataW.trod_struct hu h
  rw [hc] at hcl
  match xs, hxl with
  | [x0, x1, x2], _ =>
    have h0 := hx 0 f0 rfl
    have h1 := hx 1 f1 rfl
    have h2 := hx 2 f2 rfl
    rw [t0, o0, ty.cT] at h0
    rw [t1, o1, ty.cT] at h1
    rw [t2, o2, ty.cB] at h2
    obtain ⟨s, e2, rfl, _⟩ := DataW.trod_string ty.uB h2
    have hbb : Rows.uptoBulk x0.1 + Rows.uptoBulk x1.1 + s.size + 2 ≤ Rows.uptoBulk (DataW.agg (H := H) [x0.1, x1.1, .lit (.string s.data.toList)]) := by
      simp only [Rows.uptoBulk, Rows.uptoBulkAll]
      have : s.data.toList.length = s.size := Array.length_toList
      omega
    have hb' : Rows.uptoBulk (DataW.agg (H := H) [x0.1, x1.1, .lit (.string s.data.toList)]) ≤ 1048576 := hb
    obtain ⟨th, q1, q2, q3⟩ := read_term ty m _ x0 h0 (by omega)
    obtain ⟨tb, r1, r2, r3⟩ := read_term ty m _ x1 h1 (by omega)
    refine ⟨⟨th, tb, s⟩, ?_, ?_⟩
    · have e : cs = (cs.drop 0).take 4 ++ ((cs.drop 4).take 4 ++ ((cs.drop 8).take 1 ++ [])) := by
        match cs, hcl with
        | [a0, a1, a2, a3, a4, a5, a6, a7, a8], _ => rfl
      rw [e]
      unfold injC DC
      exact ⟨_, _, _, _, rfl, rfl, q2, q1, _, _, _, _, rfl, rfl, r2, r1, _, _, _, _, rfl, rfl, by rw [e2]; rfl, by rw [e2]; unfold DC; exact ⟨rfl, rfl⟩, rfl, rfl⟩
    · show bulk th + bulk tb + (s.size : Int) + 2 ≤ ((Rows.uptoBulk (DataW.agg (H := H) [x0.1, x1.1, .lit (.string s.data.toList)]) : Nat) : Int)
      omega
end
end Go.Proofs.Ytjhdkjacfclipaa

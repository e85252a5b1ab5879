/- The join: readings by kind of argument. -/
import Derived.Test.YtjhdkjacfclipaaJo
import Derived.Test.YtjhdkjacfclipaaEng25
set_option linter.unusedVariables false
set_option linter.unusedSimpArgs false
namespace Go.Proofs.Ytjhdkjacfclipaa
open Go.Eng Go.ChangeShapes Go.WideShapes

section
variable {H : Type} {enc : TypeId × Value → H} {P : Program} {W : World} {base : Nat} {sp : Nat → Bool} {held : Bool}
abbrev TrodA (enc : TypeId × Value → H) (P : Program) (W : World) (t : TypeId) (v : Value) (d : DataW H) (p : List MemPlace) : Prop := DataW.Trod enc P W 0 (fun _ => true) true t v d p

theorem cast_le {a : Int} {n : Nat} (h : a ≤ (n : Int)) (k : n ≤ 1048576) : a ≤ 1048576 := Int.le_trans h (Int.ofNat_le.2 k)

theorem bulkAll_len (l : List (DataW H)) : l.length ≤ Rows.uptoBulkAll l := by
  induction l with
  | nil => simp [Rows.uptoBulkAll]
  | cons x r ih =>
    have : 1 ≤ Rows.uptoBulk x := by cases x <;> first | (rename_i l; cases l <;> simp [Rows.uptoBulk]; done) | simp [Rows.uptoBulk]
    simp only [Rows.uptoBulkAll, List.length_cons]; omega

/-- A slice's elements, read one by one. -/
theorem read_slice {A : Type} {tE tS : TypeId} {l : Lay} (ij : A → D) (bk : A → Int) (hu : P.underlying tS = some (.slice tE)) (hce : P.cellsOf tE = l.len) (hl0 : 0 < l.len)
    (hread : ∀ (n : Nat) (cs : List Value) (x : DataW H × List MemPlace), DataW.trod enc P W 0 sp held n tE cs = some x → Rows.uptoBulk x.1 ≤ 1048576 → ∃ a : A, DC (below W) W (ij a) cs ∧ cs.length = l.len ∧ bk a + 1 ≤ (Rows.uptoBulk x.1 : Int))
    (n : Nat) (c : Value) (x : DataW H × List MemPlace) (h : DataW.trod enc P W 0 sp held n tS [c] = some x) (hbt : Rows.uptoBulk x.1 ≤ 1048576) :
    ∃ ks : List A, DC (below W) W (.sl l (ks.map ij)) [c] ∧ ks.length + (ks.map bk).sum + 1 ≤ (Rows.uptoBulk x.1 : Int) := by
  rcases DataW.trod_slice hu h with ⟨e3, rfl⟩ | ⟨a, len, cap, elems, rest, m', rfl, e3, rfl, hba, hlc, hcm, hel, hall, _, _⟩
  · refine ⟨[], ?_, by simp [Rows.uptoBulk]⟩
    rw [e3]
    simp only [List.map_nil, DC]
    exact ⟨none, 0, 0, rfl, rfl, Nat.le_refl _, Nat.zero_le _, .inl rfl⟩
  · rw [hce] at hall
    have hbe : Rows.uptoBulkAll (elems.map (·.1)) + 1 ≤ Rows.uptoBulk (DataW.slice (elems.map (·.1)) (rest.map (·.1))) := by simp only [Rows.uptoBulk]; omega
    have hbt' : Rows.uptoBulk (DataW.slice (elems.map (·.1)) (rest.map (·.1))) ≤ 1048576 := hbt
    obtain ⟨zs, hzl, hz⟩ := choose_list (A := A × List Value) (p := fun i z => DC (below W) W (ij z.1) z.2 ∧ z.2.length = l.len ∧ W.cells? 0 (a.add (i * l.len)) l.len = some z.2 ∧ ∀ y, elems[i]? = some y → bk z.1 + 1 ≤ (Rows.uptoBulk y.1 : Int)) len fun i hi => by
      obtain ⟨y, hy⟩ : ∃ y, elems[i]? = some y := ⟨_, List.getElem?_eq_getElem (by omega)⟩
      have := hall i hi
      rw [hy, Option.bind_eq_some_iff] at this
      obtain ⟨csi, k1, k2⟩ := this
      have hyb := bulkAll_mem (l := elems.map (·.1)) (i := i) (d := y.1) (by simp [hy])
      obtain ⟨t, q1, q2, q3⟩ := hread m' csi y k2 (by omega)
      exact ⟨(t, csi), q1, q2, k1, fun y' hy' => by rw [hy] at hy'; injection hy' with hy'; subst hy'; exact q3⟩
    have hsum : ∀ (ts : List A) (ds : List (DataW H)), ts.length = ds.length → (∀ (i : Nat) (t : A) (d : DataW H), ts[i]? = some t → ds[i]? = some d → bk t + 1 ≤ (Rows.uptoBulk d : Int)) → ts.length + (ts.map bk).sum ≤ (Rows.uptoBulkAll ds : Int) := by
      intro ts
      induction ts with
      | nil => intro ds hd _; cases ds <;> simp_all [Rows.uptoBulkAll]
      | cons t ts ih =>
        intro ds hd hp
        cases ds with
        | nil => simp at hd
        | cons d ds =>
          have h1 := hp 0 t d rfl rfl
          have h2 := ih ds (by simpa using hd) fun i t' d' e1 e2 => hp (i + 1) t' d' (by simpa using e1) (by simpa using e2)
          simp only [List.length_cons, List.map_cons, List.sum_cons, Rows.uptoBulkAll]
          push_cast
          omega
    have hkb := hsum (zs.map (·.1)) (elems.map (·.1)) (by simp [hzl, hel]) fun i t d e1 e2 => by
      simp only [List.getElem?_map, Option.map_eq_some_iff] at e1 e2
      obtain ⟨z, z1, rfl⟩ := e1
      obtain ⟨y, y1, rfl⟩ := e2
      exact (hz i z z1).2.2.2 y y1
    have hll : (Rows.uptoBulkAll (elems.map (·.1)) : Int) + 1 ≤ (Rows.uptoBulk (DataW.slice (elems.map (·.1)) (rest.map (·.1))) : Int) := by exact_mod_cast hbe
    have hel2 := bulkAll_len (elems.map (·.1))
    refine ⟨zs.map (·.1), ?_, by
      show _ ≤ ((Rows.uptoBulk (DataW.slice (elems.map (·.1)) (rest.map (·.1))) : Nat) : Int)
      omega⟩
    rw [e3]
    simp only [DC]
    refine ⟨some a, len, cap, rfl, by simp [hzl], hlc, ?_, ?_⟩
    · simp only [List.length_map, hel] at hel2
      simp only [lim]
      omega
    · by_cases h0 : len = 0
      · exact .inl h0
      · refine .inr ⟨a.block, a.off, (zs.map (·.2)).flatten, ?_, ?_, ?_, ?_⟩
        all_goals
          obtain ⟨z0, hz0⟩ : ∃ z, zs[0]? = some z := ⟨_, List.getElem?_eq_getElem (by omega)⟩
          obtain ⟨_, l0, cc0, _⟩ := hz 0 z0 hz0
          obtain ⟨cl, cg⟩ := cells_of cc0
          obtain ⟨v0, hv0⟩ : ∃ v, z0.2[0]? = some v := ⟨_, List.getElem?_eq_getElem (by omega)⟩
          have hcell := cg 0 v0 hv0
          rw [Nat.zero_mul, add_zero_addr, add_zero_addr] at hcell
          obtain ⟨hsp, hlt⟩ := cell_spot hcell
        · cases a; simp only at hsp; subst hsp; rfl
        · exact hlt
        · have := DCs_rows (S := below W) (w := W) (l := l) (ds := (zs.map (·.1)).map ij) (css := zs.map (·.2)) (by simp) fun i d cs e1 e2 => by
            simp only [List.getElem?_map, Option.map_eq_some_iff] at e1 e2
            obtain ⟨t, ⟨z, z1, rfl⟩, rfl⟩ := e1
            obtain ⟨z', z1', rfl⟩ := e2
            rw [z1] at z1'
            injection z1' with z1'
            subst z1'
            exact ⟨(hz i z z1).1, (hz i z z1).2.1⟩
          exact this
        · intro j x hx
          obtain ⟨c, h5, h6⟩ := flatten_get (l := l.len) hl0 (fun c hc => by
            obtain ⟨z, hz', rfl⟩ := List.mem_map.1 hc
            obtain ⟨i, hi⟩ := List.getElem?_of_mem hz'
            exact (hz i z hi).2.1) j x hx
          simp only [List.getElem?_map, Option.map_eq_some_iff] at h5
          obtain ⟨z, z1, rfl⟩ := h5
          have := (cells_of (hz _ z z1).2.2.1).2 _ x h6
          rw [add_add_addr a hsp] at this
          have e : j / l.len * l.len + j % l.len = j := Nat.div_add_mod' j l.len
          rw [e] at this
          exact this
end
end Go.Proofs.Ytjhdkjacfclipaa

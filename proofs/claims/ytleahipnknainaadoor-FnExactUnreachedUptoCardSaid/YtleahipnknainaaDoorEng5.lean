/- The engine: operations that read memory: addresses, loads, slices. -/
import Derived.Test.YtleahipnknainaaDoorEng4
import Derived.Laws.CopyRow
import Derived.Laws.Slices
set_option linter.unusedVariables false
set_option linter.unusedSimpArgs false
namespace Go.Eng

theorem len_take_rep (k m : Nat) (l : Lay) (h : k ≤ m) : Lay.lens ((List.replicate m l).take k) = k * l.len := by
  rw [List.take_replicate, Nat.min_eq_left h, lens_replicate]
theorem get_rep {k m : Nat} (l : Lay) (h : k < m) : (List.replicate m l)[k]? = some l := by simp [List.getElem?_replicate, h]
theorem lt_of_get {A : Type} {l : List A} {k : Nat} {x : A} (h : l[k]? = some x) : k < l.length := by
  rcases Nat.lt_or_ge k l.length with h' | h'
  · exact h'
  · rw [List.getElem?_eq_none h'] at h
    cases h

theorem cellsAt_mid {w : World} {b off : Nat} {c1 c2 c3 : List Value} (h : cellsAt w b off (c1 ++ c2 ++ c3)) : cellsAt w b (off + c1.length) c2 := by
  intro j x hx
  have hj := lt_of_get hx
  have := h (c1.length + j) x (by rw [List.append_assoc, List.getElem?_append_right (by omega), show c1.length + j - c1.length = j by omega, List.getElem?_append_left hj]; exact hx)
  rw [show off + c1.length + j = off + (c1.length + j) by omega]
  exact this

section
variable {P : Program} {C : Cx} {n : Nat} {f : Fr} {L : Hp} {dst : Option Tmp} {ty : TypeId} {pos : String} {after : Array Edge} {g : Option (Nat × Bool)}

/-- Element k of a box, in memory. -/
theorem box_elem {β : Beta} {S : Nat → Prop} {w : World} {i : Nat} {bx : Box} {b Cp k : Nat} {e : V} (h : BoxR β S w i bx) (hb : β i = some (some (b, Cp))) (he : bx.es[k]? = some e) :
    ∃ cs, VC β S w e cs ∧ cs.length = bx.l.len ∧ cellsAt w b (k * bx.l.len) cs := by
  obtain ⟨_, h⟩ := h
  rcases h with ⟨h1, h2⟩ | ⟨b', C', cur, ds, h1, h2, h3, h4, h5, h6⟩
  · rw [h1] at hb; cases hb
  · rw [h1] at hb
    injection hb with hb; injection hb with hb; injection hb with hb hb'
    subst hb
    have hk := lt_of_get he
    obtain ⟨c1, c2, c3, e1, e2, e3, e4, _⟩ := VCs_get bx.es _ ds k bx.l e h5 (get_rep _ hk) he
    rw [len_take_rep _ _ _ (by omega)] at e2
    refine ⟨c2, e4, e3, ?_⟩
    have : cellsAt w b' 0 (c1 ++ c2 ++ c3) := by
      intro j x hx
      rw [← e1] at hx
      have := h6 j x hx
      simp [World.cell?, h2, this]
    have := cellsAt_mid this
    rwa [e2, Nat.zero_add] at this

theorem tyAgg_desc {t : TypeId} {ag : Bool} (h : tyAgg P t = some ag) : ∃ d, P.underlying t = some d ∧ (match d with | .struct _ | .array _ _ => true | _ => false) = ag := by
  unfold tyAgg at h
  split at h
  · rename_i fs e; exact ⟨_, e, by injection h⟩
  · rename_i k m e; exact ⟨_, e, by injection h⟩
  · rename_i d h1 h2 e
    refine ⟨d, e, ?_⟩
    injection h with h
    subst h
    cases d <;> first | rfl | exact absurd rfl (h1 _) | exact absurd rfl (h2 _ _)
  · cases h

theorem run_isAgg {t : TypeId} {ag : Bool} (h : tyAgg P t = some ag) (w : World) : (isAgg t).run P w = .ok ag w := by
  obtain ⟨d, hd, e⟩ := tyAgg_desc h
  subst e
  simp only [isAgg, Sem.run_bind, run_underlying hd, Result.andThen]
  cases d <;> rfl

theorem run_loadVar' {t : TypeId} {ag : Bool} {w : World} {b o : Nat} {cs : List Value} (ha : tyAgg P t = some ag) (hs : tySize P t = some cs.length) (h1 : ag = false → cs.length = 1) (hc : cellsAt w b o cs) :
    (loadVar t ⟨b, o, none⟩).run P w = .ok (if ag then .agg cs.toArray else cs.headD undef) w := by
  cases ag with
  | true =>
    have h2 : (loadCells ⟨b, o, none⟩ cs.length).run P w = .ok cs.toArray w := run_loadCells_list w _ cs fun j v h => by rw [Addr.add_lit]; exact hc j v h
    obtain ⟨i, hi, hsz⟩ := Option.map_eq_some_iff.1 hs
    have hsz' : (sizeOf t).run P w = .ok cs.length w := by simp [sizeOf, typeInfo, hi, hsz, Result.andThen]
    simp only [loadVar, Sem.run_bind, run_isAgg ha, Result.andThen, if_true, hsz', h2]
    rfl
  | false =>
    have h1 := h1 rfl
    match cs, h1 with
    | [x], _ =>
      have := hc 0 x rfl
      rw [Nat.add_zero] at this
      simp only [loadVar, Sem.run_bind, run_isAgg ha, Result.andThen]
      simp [this]

theorem VR0_of_cells {β : Beta} {S : Nat → Prop} {w : World} {y : V} {cs : List Value} (h : VC β S w y cs) (h1 : y.isAgg = false → cs.length = 1) : VR0 β S w y (if y.isAgg then .agg cs.toArray else cs.headD undef) := by
  cases e : y.isAgg with
  | true => exact .inr ⟨by simpa [Value.cells] using h, by simp [e, isAggV]⟩
  | false =>
    have := h1 e
    match cs, this with
    | [x], _ =>
      have hs := VC_scalar y _ h x (by simp)
      refine .inr ⟨?_, ?_⟩
      · simp only [Bool.false_eq_true, if_false, List.headD_cons]
        rw [cells_scalar hs]
        exact h
      · simp only [Bool.false_eq_true, if_false, List.headD_cons]
        rw [isAgg_scalar hs, e]

theorem Ev_load_ptr {t : TypeId} {x : Operand} {l l' l'' : Lay} {i k o : Nat} {p : List Nat} {bx : Box} {e y : V} (hx : ev f x = .ptr l i k p) (hL : L[i]? = some (some bx)) (hbl : bx.l = l) (he : bx.es[k]? = some e)
    (hp : e.at? l p = some (o, l', y)) (hq : l.at? p = some (o, l'')) (hs : tySize P t = some l'.len) {ag : Bool} (ha : tyAgg P t = some ag) (hag : y.isAgg = ag) (h1 : ag = false → l'.len = 1) :
    Ev P C n ⟨dst, .load t x, ty, pos, after, g⟩ f L y := by
  subst hag
  intro a w β S hr
  have hv := rel_ev hr x
  rw [hx] at hv
  obtain ⟨b, Cp, o2, l2, h2, h3, h4⟩ := VR_ptr hv
  rw [hq] at h3
  injection h3 with h3; injection h3 with h3 h3'
  subst h3; subst h3'; subst hbl
  obtain ⟨cs, k1, k2, k3⟩ := box_elem (hr.hp.bx i bx hL) h2 he
  obtain ⟨c1, c2, c3, rfl, q1, q2, q3, _⟩ := VC_at p e bx.l cs o l' y k1 k2 hp
  have hc := cellsAt_mid k3
  rw [q1] at hc
  refine ⟨if y.isAgg then .agg c2.toArray else c2.headD undef, ?_, VR_of_VR0 (VR0_of_cells q3 fun h => by rw [q2]; exact h1 h)⟩
  have hrun := run_loadVar' (P := P) (t := t) ha (by rw [q2]; exact hs) (fun h => by rw [q2]; exact h1 h) hc
  simp only [execOp, h4, Instr.loadAt, Instr.sureAddr, Sem.run_bind, Sem.run_pure, Result.andThen, hrun]

theorem Ev_load_rp {t : TypeId} {x : Operand} {l l' l'' : Lay} {o : Nat} {p : List Nat} {e y : D} (hx : ev f x = .d (.rp l e p))
    (hp : e.at? l p = some (o, l', y)) (hq : l.at? p = some (o, l'')) (hs : tySize P t = some l'.len) {ag : Bool} (ha : tyAgg P t = some ag) (hag : y.isAgg = ag) (h1 : ag = false → l'.len = 1) :
    Ev P C n ⟨dst, .load t x, ty, pos, after, g⟩ f L (.d y) := by
  subst hag
  intro a w β S hr
  have hv := rel_ev hr x
  rw [hx] at hv
  obtain ⟨b, off, ds, o2, l2, h2, h3, h4, h5, h6, h7⟩ := VR_rp hv
  rw [hq] at h2
  injection h2 with h2; injection h2 with h2 h2'
  subst h2; subst h2'
  obtain ⟨c1, c2, c3, rfl, q1, q2, q3⟩ := DC_at p e l ds o l' y h6 h5 hp
  have hc := cellsAt_mid h7
  rw [q1] at hc
  have hvc : VC β S w (.d y) c2 := by simpa only [VC] using q3
  refine ⟨if y.isAgg then .agg c2.toArray else c2.headD undef, ?_, VR_of_VR0 (VR0_of_cells hvc fun h => by rw [q2]; exact h1 h)⟩
  have hrun := run_loadVar' (P := P) (t := t) ha (by rw [q2]; exact hs) (fun h => by rw [q2]; exact h1 h) hc
  simp only [execOp, h3, Instr.loadAt, Instr.sureAddr, Sem.run_bind, Sem.run_pure, Result.andThen, hrun]

theorem tyField_run {s : TypeId} {j o : Nat} (h : tyField P s j = some (o, true)) (b off : Nat) (w : World) : (Instr.fieldAt s (.pointer (some ⟨b, off, none⟩)) j).run P w = .ok (.pointer (some ⟨b, off + o, none⟩)) w := by
  unfold tyField at h
  split at h
  · rename_i fs e
    split at h
    · rename_i fd e2
      split at h
      · rename_i i e3
        injection h with h; injection h with h1 h2
        have hz : ¬ i.size = 0 := by simpa using h2
        have hsz : (sizeOf fd.type).run P w = .ok i.size w := by simp [sizeOf, typeInfo, e3, Result.andThen]
        simp only [Instr.fieldAt, Sem.run_bind, run_underlying e, Result.andThen, e2, Instr.sureAddr, Sem.run_pure, fieldPlace, hsz, if_neg hz, Addr.add_lit, h1]
      · cases h
    · cases h
  · cases h

theorem Ev_fa_ptr {s : TypeId} {x : Operand} {l l1 l2 : Lay} {i k j o0 o : Nat} {p : List Nat} (hx : ev f x = .ptr l i k p) (hf : tyField P s j = some (o, true)) (h1 : l.at? p = some (o0, l1)) (h2 : l.at? (p ++ [j]) = some (o0 + o, l2)) :
    Ev P C n ⟨dst, .fieldAddr s x j, ty, pos, after, g⟩ f L (.ptr l i k (p ++ [j])) := by
  intro a w β S hr
  have hv := rel_ev hr x
  rw [hx] at hv
  obtain ⟨b, Cp, o2, l3, h3, h4, h5⟩ := VR_ptr hv
  rw [h1] at h4
  injection h4 with h4; injection h4 with h4 h4'
  subst h4
  refine ⟨.pointer (some ⟨b, k * l.len + (o0 + o), none⟩), ?_, VR_ptr_mk h3 h2⟩
  simp only [execOp, h5, Sem.run_bind, tyField_run hf, Result.andThen, Nat.add_assoc]
  rfl
theorem Ev_fa_rp {s : TypeId} {x : Operand} {l l1 l2 : Lay} {j o0 o : Nat} {p : List Nat} {e : D} (hx : ev f x = .d (.rp l e p)) (hf : tyField P s j = some (o, true)) (h1 : l.at? p = some (o0, l1)) (h2 : l.at? (p ++ [j]) = some (o0 + o, l2)) :
    Ev P C n ⟨dst, .fieldAddr s x j, ty, pos, after, g⟩ f L (.d (.rp l e (p ++ [j]))) := by
  intro a w β S hr
  have hv := rel_ev hr x
  rw [hx] at hv
  obtain ⟨b, off, ds, o2, l3, h3, h4, h5, h6, h7, h8⟩ := VR_rp hv
  rw [h1] at h3
  injection h3 with h3; injection h3 with h3 h3'
  subst h3
  refine ⟨.pointer (some ⟨b, off + (o0 + o), none⟩), ?_, VR_rp_mk h2 h5 h6 h7 h8⟩
  simp only [execOp, h4, Sem.run_bind, tyField_run hf, Result.andThen, Nat.add_assoc]
  rfl

theorem Ev_nilc_ptr {x : Operand} {l : Lay} {i k : Nat} {p : List Nat} (hx : ev f x = .ptr l i k p) : Ev P C n ⟨dst, .nilCheck x, ty, pos, after, g⟩ f L (.ptr l i k p) := by
  intro a w β S hr
  have hv := rel_ev hr x
  rw [hx] at hv
  obtain ⟨b, Cp, o2, l3, h3, h4, h5⟩ := VR_ptr hv
  exact ⟨_, by simp [execOp, h5], h5 ▸ hv⟩
theorem Ev_nilc_rp {x : Operand} {l : Lay} {e : D} {p : List Nat} (hx : ev f x = .d (.rp l e p)) : Ev P C n ⟨dst, .nilCheck x, ty, pos, after, g⟩ f L (.d (.rp l e p)) := by
  intro a w β S hr
  have hv := rel_ev hr x
  rw [hx] at hv
  obtain ⟨b, off, ds, o2, l3, h3, h4, h5⟩ := VR_rp hv
  exact ⟨_, by simp [execOp, h4], h4 ▸ hv⟩

theorem run_sizeOf' {t : TypeId} {m : Nat} (h : tySize P t = some m) (w : World) : (sizeOf t).run P w = .ok m w := by
  obtain ⟨i, hi, hsz⟩ := Option.map_eq_some_iff.1 h
  simp [sizeOf, typeInfo, hi, hsz, Result.andThen]

theorem run_indexAt' {t e : TypeId} {m : Nat} (ht : tyElem P t = some e) (hs : tySize P e = some m) (b off len cap : Nat) (k : IntKind) (j : Int) (h0 : 0 ≤ j) (h1 : j < len) (w : World) :
    (Instr.indexAt t (.slice (some ⟨b, off, none⟩) len cap) (.int k j)).run P w = .ok (.pointer (some ⟨b, off + j.toNat * m, none⟩)) w := by
  have hj : 0 ≤ j ∧ j < (len : Int) := ⟨h0, h1⟩
  simp [Instr.indexAt, asIntOf, run_underlying (elem_some ht), Result.andThen, hj, run_sizeOf' hs, Addr.add_lit]

theorem Ev_ix_sl {t e : TypeId} {x y : Operand} {k : IntKind} {j : Int} {l : Lay} {xs : List D} {z : D} (hx : ev f x = .d (.sl l xs)) (hy : ev f y = .d (.c (.int k j))) (ht : tyElem P t = some e) (hs : tySize P e = some l.len) (h0 : 0 ≤ j) (hz : xs[j.toNat]? = some z) :
    Ev P C n ⟨dst, .indexAddr t x y, ty, pos, after, g⟩ f L (.d (.rp l z [])) := by
  intro a w β S hr
  have hv := rel_ev hr x
  rw [hx] at hv
  obtain ⟨A, cap, h1, h2, h3, h4⟩ := VR_sl hv
  have hk := lt_of_get hz
  rcases h4 with h4 | ⟨b, off, ds, rfl, hb, hd, hc⟩
  · omega
  · obtain ⟨c1, c2, c3, rfl, q1, q2, q3⟩ := DCs_get xs _ ds j.toNat l z hd (get_rep _ hk) hz
    rw [len_take_rep _ _ _ (by omega)] at q1
    have hc' := cellsAt_mid hc
    rw [q1] at hc'
    refine ⟨.pointer (some ⟨b, off + j.toNat * l.len + 0, none⟩), ?_, VR_rp_mk (o := 0) (l' := l) (by cases l <;> rfl) hb q2 q3 hc'⟩
    simp only [execOp, h1, eval_c hr hy, Sem.run_bind, run_indexAt' ht hs b off xs.length cap k j h0 (by omega), Result.andThen, Nat.add_zero]
    rfl

theorem Ev_ix_ref {t e : TypeId} {x y : Operand} {k : IntKind} {j : Int} {l : Lay} {i off m : Nat} (hx : ev f x = .ref l i off m) (hy : ev f y = .d (.c (.int k j))) (ht : tyElem P t = some e) (hs : tySize P e = some l.len) (h0 : 0 ≤ j) (h1 : j < m) :
    Ev P C n ⟨dst, .indexAddr t x y, ty, pos, after, g⟩ f L (.ptr l i (off + j.toNat) []) := by
  intro a w β S hr
  have hv := rel_ev hr x
  rw [hx] at hv
  rcases VR_ref hv with ⟨_, _, _, h2⟩ | ⟨b, Cp, h2, h3, h4⟩
  · omega
  · refine ⟨.pointer (some ⟨b, (off + j.toNat) * l.len + 0, none⟩), ?_, VR_ptr_mk (o := 0) (l' := l) h2 (by cases l <;> rfl)⟩
    simp only [execOp, h3, eval_c hr hy, Sem.run_bind, run_indexAt' ht hs b _ m _ k j h0 h1, Result.andThen, Nat.add_zero, Nat.add_mul]
    rfl

theorem Ev_ix_str {t : TypeId} {x y : Operand} {k : IntKind} {j : Int} {s : ByteArray} {u : UInt8} (ht : tyStr P t = true) (hx : ev f x = st s) (hy : ev f y = .d (.c (.int k j))) (h0 : 0 ≤ j) (hu : s[j.toNat]? = some u) :
    Ev P C n ⟨dst, .index t x y, ty, pos, after, g⟩ f L (.d (.c (.int .u8 u.toNat))) :=
  Ev_run rfl fun a w β S hr => by
    have ht' : P.underlying t = some .string := by
      unfold tyStr at ht
      split at ht
      · assumption
      · cases ht
    simp [execOp, eval_c hr hx, eval_c hr hy, Instr.index, asIntOf, run_underlying ht', Result.andThen, h0, hu]

theorem run_sliceBound' (k : IntKind) (i : Int) (y : Nat) (code : BoundsCode) (h0 : 0 ≤ i) (h1 : i ≤ y) (w : World) : (Instr.sliceBound (.int k i) y code).run P w = .ok i.toNat w := by
  simp [Instr.sliceBound, asIntOf, Result.andThen, h0, h1]

/-- The bounds of a slice expression: what is written, or what stands for it. -/
def loV : Option V → Option Int | none => some 0 | some (.d (.c (.int _ i))) => some i | _ => none
def hiV (m : Nat) : Option V → Option Int | none => some m | some (.d (.c (.int _ i))) => some i | _ => none

theorem run_bounds {a : Act} {w : World} {β : Beta} {S : Nat → Prop} (hr : Rel C n f L a w β S) (isS : Bool) (len cap : Nat) {lo hi : Option Operand} {i j : Int} (hlo : loV (lo.map (ev f)) = some i) (hhi : hiV len (hi.map (ev f)) = some j)
    (h0 : 0 ≤ i) (h1 : i ≤ j) (h2 : j ≤ cap) : (Instr.sliceBounds isS len cap (lo.map a.eval) (hi.map a.eval) none).run P w = .ok (i.toNat, j.toNat, cap) w := by
  have hlo' : (lo = none ∧ i = 0) ∨ ∃ x k, lo = some x ∧ a.eval x = .int k i := by
    cases lo with
    | none => exact .inl ⟨rfl, by simpa [loV] using hlo.symm⟩
    | some x =>
      simp only [Option.map_some] at hlo
      unfold loV at hlo
      split at hlo
      · rename_i e; cases e
      · rename_i k i' e
        injection e with e; injection hlo with hlo; subst hlo
        exact .inr ⟨x, k, rfl, eval_c hr e⟩
      · cases hlo
  have hhi' : (hi = none ∧ j = len) ∨ ∃ x k, hi = some x ∧ a.eval x = .int k j := by
    cases hi with
    | none => exact .inl ⟨rfl, by simpa [hiV] using hhi.symm⟩
    | some x =>
      simp only [Option.map_some] at hhi
      unfold hiV at hhi
      split at hhi
      · rename_i e; cases e
      · rename_i k i' e
        injection e with e; injection hhi with hhi; subst hhi
        exact .inr ⟨x, k, rfl, eval_c hr e⟩
      · cases hhi
  rcases hhi' with ⟨rfl, rfl⟩ | ⟨x, k, rfl, hx⟩
  · rcases hlo' with ⟨rfl, rfl⟩ | ⟨x', k', rfl, hx'⟩
    · simp [Instr.sliceBounds, Result.andThen]
    · have := run_sliceBound' (P := P) k' i len .sliceB h0 (by omega) w
      simp [Instr.sliceBounds, Result.andThen, hx', this]
  · have hj := run_sliceBound' (P := P) k j cap (if isS then .sliceAcap else .sliceAlen) (by omega) h2 w
    rcases hlo' with ⟨rfl, rfl⟩ | ⟨x', k', rfl, hx'⟩
    · simp [Instr.sliceBounds, Result.andThen, hx, hj]
    · have := run_sliceBound' (P := P) k' i j.toNat .sliceB h0 (by omega) w
      simp [Instr.sliceBounds, Result.andThen, hx, hj, hx', this]

theorem Ev_slice_str {t : TypeId} {x : Operand} {lo hi : Option Operand} {i j : Int} {s : ByteArray} (ht : tyStr P t = true) (hx : ev f x = st s) (hlo : loV (lo.map (ev f)) = some i) (hhi : hiV s.size (hi.map (ev f)) = some j)
    (h0 : 0 ≤ i) (h1 : i ≤ j) (h2 : j ≤ s.size) : Ev P C n ⟨dst, .slice t x lo hi none, ty, pos, after, g⟩ f L (st (s.extract i.toNat j.toNat)) :=
  Ev_run rfl fun a w β S hr => by
    have ht' : P.underlying t = some .string := by
      unfold tyStr at ht
      split at ht
      · assumption
      · cases ht
    have hb := run_bounds (P := P) hr false s.size s.size hlo hhi h0 h1 h2
    simp only [execOp, Instr.sliceAt, eval_c hr hx, Sem.run_bind, run_underlying ht', Result.andThen, Instr.slice, Option.map_none, Option.isSome_none, Bool.false_eq_true, if_false, hb]
    rfl

theorem DCs_drop {S : Nat → Prop} {w : World} : ∀ (k : Nat) (ds : List D) (fs : List Lay) (cs : List Value), DCs S w fs ds cs → k ≤ ds.length → ∃ c1 c2, cs = c1 ++ c2 ∧ c1.length = Lay.lens (fs.take k) ∧ DCs S w (fs.drop k) (ds.drop k) c2
  | 0, ds, fs, cs, h, _ => ⟨[], cs, rfl, by simp [Lay.lens], by simpa using h⟩
  | k + 1, [], fs, cs, h, hk => by simp at hk
  | k + 1, d :: ds, fs, cs, h, hk => by
    simp only [DCs] at h
    obtain ⟨f, fr, c1, c2, rfl, rfl, h3, h4, h5⟩ := h
    obtain ⟨d1, d2, rfl, q1, q2⟩ := DCs_drop k ds fr c2 h5 (by simpa using hk)
    exact ⟨c1 ++ d1, d2, by simp, by simp [Lay.lens, h3, q1], by simpa using q2⟩
theorem DCs_take {S : Nat → Prop} {w : World} : ∀ (k : Nat) (ds : List D) (fs : List Lay) (cs : List Value), DCs S w fs ds cs → k ≤ ds.length → ∃ c1 c2, cs = c1 ++ c2 ∧ DCs S w (fs.take k) (ds.take k) c1
  | 0, ds, fs, cs, h, _ => ⟨[], cs, rfl, by simp [DCs]⟩
  | k + 1, [], fs, cs, h, hk => by simp at hk
  | k + 1, d :: ds, fs, cs, h, hk => by
    simp only [DCs] at h
    obtain ⟨f, fr, c1, c2, rfl, rfl, h3, h4, h5⟩ := h
    obtain ⟨d1, d2, rfl, q2⟩ := DCs_take k ds fr c2 h5 (by simpa using hk)
    refine ⟨c1 ++ d1, d2, by simp, ?_⟩
    simp only [List.take_succ_cons, DCs]
    exact ⟨_, _, _, _, rfl, rfl, h3, h4, q2⟩

theorem Ev_slice_sl {t e : TypeId} {x : Operand} {lo hi : Option Operand} {i j : Int} {l : Lay} {xs : List D} (hx : ev f x = .d (.sl l xs)) (ht : tyElem P t = some e) (hs : tySize P e = some l.len) (hlo : loV (lo.map (ev f)) = some i) (hhi : hiV xs.length (hi.map (ev f)) = some j)
    (h0 : 0 ≤ i) (h1 : i ≤ j) (h2 : j ≤ xs.length) : Ev P C n ⟨dst, .slice t x lo hi none, ty, pos, after, g⟩ f L (.d (.sl l ((xs.take j.toNat).drop i.toNat))) := by
  intro a w β S hr
  have hv := rel_ev hr x
  rw [hx] at hv
  obtain ⟨A, cap, e1, e2, e3, e4⟩ := VR_sl hv
  have hb := run_bounds (P := P) hr true xs.length cap hlo hhi h0 h1 (by omega)
  have hl : ((xs.take j.toNat).drop i.toNat).length = j.toNat - i.toNat := by simp; omega
  refine ⟨.slice (if cap = i.toNat then A else A.map (·.add (i.toNat * l.len))) ((xs.take j.toNat).drop i.toNat).length (cap - i.toNat), ?_, VR_sl_mk (by omega) (by omega) ?_⟩
  · simp only [execOp, Instr.sliceAt, e1, Sem.run_bind, run_underlying (elem_some ht), Result.andThen, Instr.slice, hb, run_sizeOf' hs, hl, Option.map_none]
    rfl
  · by_cases hz : j.toNat - i.toNat = 0
    · exact .inl (by rw [hl]; exact hz)
    · right
      rcases e4 with e4 | ⟨b, off, ds, rfl, hb, hd, hc⟩
      · omega
      · have hne : ¬ cap = i.toNat := by omega
        obtain ⟨c1, c2, rfl, q1⟩ := DCs_take j.toNat xs _ ds hd (by omega)
        obtain ⟨d1, d2, rfl, r1, r2⟩ := DCs_drop i.toNat _ _ c1 q1 (by simp; omega)
        rw [List.take_replicate] at r1
        rw [len_take_rep _ _ _ (by omega)] at r1
        refine ⟨b, off + i.toNat * l.len, d2, by rw [if_neg hne]; simp [Addr.add_lit], hb, ?_, ?_⟩
        · rw [List.take_replicate, List.drop_replicate] at r2
          have : min j.toNat xs.length - i.toNat = ((xs.take j.toNat).drop i.toNat).length := by rw [hl]; omega
          rwa [this] at r2
        · have := cellsAt_mid hc
          rwa [r1] at this

theorem Ev_slice_ref {t e : TypeId} {x : Operand} {lo hi : Option Operand} {i j : Int} {l : Lay} {b0 off m : Nat} (hx : ev f x = .ref l b0 off m) (ht : tyElem P t = some e) (hs : tySize P e = some l.len) (hlo : loV (lo.map (ev f)) = some i) (hhi : hiV m (hi.map (ev f)) = some j)
    (h0 : 0 ≤ i) (h1 : i < j) (h2 : j ≤ m) : Ev P C n ⟨dst, .slice t x lo hi none, ty, pos, after, g⟩ f L (.ref l b0 (off + i.toNat) (j.toNat - i.toNat)) := by
  intro a w β S hr
  have hv := rel_ev hr x
  rw [hx] at hv
  rcases VR_ref hv with ⟨_, _, _, h⟩ | ⟨b, Cp, e1, e2, e3⟩
  · omega
  · have hb := run_bounds (P := P) hr true m (Cp - off) hlo hhi h0 (by omega) (by omega)
    have hne : ¬ Cp - off = i.toNat := by omega
    refine ⟨.slice (some ⟨b, (off + i.toNat) * l.len, none⟩) (j.toNat - i.toNat) (Cp - (off + i.toNat)), ?_, VR_ref_mk (.inr ⟨b, Cp, e1, rfl, by omega⟩)⟩
    have hsub : Cp - off - i.toNat = Cp - (off + i.toNat) := by omega
    simp only [execOp, Instr.sliceAt, e2, Sem.run_bind, run_underlying (elem_some ht), Result.andThen, Instr.slice, hb, run_sizeOf' hs, Option.map_none, if_neg hne, Option.map_some, Addr.add_lit, Nat.add_mul, hsub]
    rfl
/-- An empty part of a slice of our own. -/
theorem Ev_slice_ref0 {t e : TypeId} {x : Operand} {lo hi : Option Operand} {i : Int} {l : Lay} {b0 off m : Nat} (hx : ev f x = .ref l b0 off m) (ht : tyElem P t = some e) (hs : tySize P e = some l.len) (hlo : loV (lo.map (ev f)) = some i) (hhi : hiV m (hi.map (ev f)) = some i)
    (h0 : 0 ≤ i) (h2 : i ≤ m) : Ev P C n ⟨dst, .slice t x lo hi none, ty, pos, after, g⟩ f L (.d (.sl l [])) := by
  intro a w β S hr
  have hv := rel_ev hr x
  rw [hx] at hv
  have hxv : ∃ A cap, a.eval x = .slice A m cap ∧ m ≤ cap := by
    rcases VR_ref hv with ⟨_, h, _, rfl⟩ | ⟨b, Cp, e1, e2, e3⟩
    · exact ⟨_, _, h, Nat.le_refl _⟩
    · exact ⟨_, _, e2, by omega⟩
  obtain ⟨A, cap, hxv, hm⟩ := hxv
  have hb := run_bounds (P := P) hr true m cap hlo hhi h0 (by omega) (by omega)
  refine ⟨.slice (if cap = i.toNat then A else A.map (·.add (i.toNat * l.len))) (i.toNat - i.toNat) (cap - i.toNat), ?_, ?_⟩
  · simp only [execOp, Instr.sliceAt, hxv, Sem.run_bind, run_underlying (elem_some ht), Result.andThen, Instr.slice, hb, run_sizeOf' hs, Option.map_none]
    rfl
  · rw [Nat.sub_self]
    exact VR_sl_mk (xs := []) (Nat.zero_le _) (Nat.zero_le _) (.inl rfl)

theorem Ev_extract {x : Operand} {vs : List V} {j : Nat} {v : V} (hx : ev f x = .tup vs) (hj : vs[j]? = some v) : Ev P C n ⟨dst, .extract x j, ty, pos, after, g⟩ f L v := by
  intro a w β S hr
  have hv := rel_ev hr x
  rw [hx] at hv
  obtain ⟨xs, e, h⟩ := hv
  have key : ∀ (vs : List V) (xs : List Value), All2 (VR0 β S w) vs xs → ∀ (j : Nat) (v : V), vs[j]? = some v → ∃ y : Value, xs[j]? = some y ∧ VR0 β S w v y := by
    intro vs xs h
    induction h with
    | nil => intro j v h; simp at h
    | cons h1 h2 ih =>
      intro j v hj
      cases j with
      | zero => simp at hj; subst hj; exact ⟨_, rfl, h1⟩
      | succ j => simp at hj; simpa using ih j v hj
  obtain ⟨y, hy, hv⟩ := key vs xs h j v hj
  refine ⟨y, ?_, VR_of_VR0 hv⟩
  simp [execOp, e, Instr.extract, hy, Result.andThen]

end
end Go.Eng

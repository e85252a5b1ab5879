/- The engine: slices written out that are read alone; append and store in a region that draws its order. -/
import Derived.Test.YtleahipnknainaaDoorEng14
set_option linter.unusedVariables false
set_option linter.unusedSimpArgs false
namespace Go.Eng

section
variable {P : Program} {C : Cx} {n : Nat} {ops : Array Oper} {Q : AQ} {f : Fr} {L : Hp} {rest : List Oper} {dst : Option Tmp} {ty : TypeId} {pos : String} {after : Array Edge} {i : Nat} {r : List Nat}

/-- A new block that is read alone. -/
theorem Rel.newRead {a : Act} {w : World} {β : Beta} {S : Nat → Prop} (h : Rel C n f L a w β S) (cur : Array Value) (e : TypeId) : Rel C n f L a (w.alloc (.cells cur e)) β (fun b => S b ∨ b = w.heap.size) := by
  have old : ∀ b, b < w.heap.size → (w.alloc (.cells cur e)).heap[b]? = w.heap[b]? := fun b hb => by
    show (w.heap.push _)[b]? = _
    rw [Array.getElem?_push, if_neg (by omega)]
  have lat : Later β S w β (fun b => S b ∨ b = w.heap.size) (w.alloc (.cells cur e)) := ⟨fun _ _ h => h, fun _ h => .inl h, fun b hb => old b (h.hp.fz b hb)⟩
  refine h.later lat ⟨fun i b hi => BoxR_later lat (fun b' c hb => old b' ((h.hp.bx i b hi).lt hb)) (h.hp.bx i b hi), h.hp.inj, ?_, ?_, h.hp.un⟩ h.own ?_ ?_
  · rintro i bx b c hi hb (hs | hs)
    · exact h.hp.own i bx b c hi hb hs
    · have := (h.hp.bx i bx hi).lt hb
      omega
  · rintro b (hs | hs)
    · have := h.hp.fz b hs
      simp
      omega
    · simp [hs]
  · rintro b (hs | hs)
    · exact h.fz b hs
    · have := h.pres.size
      exact .inr (.inl (by omega))
  · exact ⟨h.pres.os, h.pres.tape, h.pres.output, by have := h.pres.size; simp; omega, fun b hb hd => (old b (by have := h.pres.size; omega)).trans (h.pres.block b hb hd)⟩

theorem flat_RD {S : Nat → Prop} {w : World} {l : Lay} : ∀ {ds : List D} {xs : List Value}, All2 (RD S w) ds xs → (∀ d ∈ ds, d.len? = l.len) → DCs S w (List.replicate ds.length l) ds (xs.map (·.cells.toList)).flatten
  | _, _, .nil, _ => by simp [DCs]
  | _, _, .cons h1 h2, hl => by
    simp only [List.length_cons, List.replicate_succ, List.map_cons, List.flatten_cons, DCs]
    exact ⟨_, _, _, _, rfl, rfl, by rw [DC_len h1.1]; exact hl _ (by simp), h1.1, flat_RD h2 fun d hd => hl d (by simp [hd])⟩

theorem parts_RD {a : Act} {w : World} {β : Beta} {S : Nat → Prop} (hr : Rel C n f L a w β S) : ∀ (ps : List (Nat × Operand)) (i : Nat) (ds : List D), ps.map (fun q => (q.1, ev f q.2)) = numb i (ds.map V.d) → ∃ xs, ps.map (fun q => (q.1, a.eval q.2)) = numb i xs ∧ All2 (RD S w) ds xs ∧ xs.length = ds.length
  | [], i, ds, h => by
    cases ds with
    | nil => exact ⟨[], rfl, .nil, rfl⟩
    | cons v r => simp [numb] at h
  | q :: ps, i, ds, h => by
    cases ds with
    | nil => simp [numb] at h
    | cons d ds =>
      simp only [List.map_cons, numb, List.cons.injEq, Prod.mk.injEq] at h
      obtain ⟨⟨h1, h2⟩, h3⟩ := h
      obtain ⟨xs, e1, e2, e3⟩ := parts_RD hr ps (i + 1) ds h3
      refine ⟨a.eval q.2 :: xs, by simp [numb, e1, h1], .cons ?_ e2, by simp [e3]⟩
      have := rel_ev hr q.2
      rw [h2] at this
      exact RD_of_VR0 this

def lenDs (k : Nat) : List D → Bool
  | [] => true
  | d :: r => Nat.beq d.len? k && lenDs k r
theorem lenDs_spec {k : Nat} : ∀ {ds : List D}, lenDs k ds = true → ∀ d ∈ ds, d.len? = k
  | [], _, d, hd => by cases hd
  | d :: r, h, x, hx => by
    simp only [lenDs, Bool.and_eq_true] at h
    rcases List.mem_cons.1 hx with rfl | hx
    · exact Nat.eq_of_beq_eq_true h.1
    · exact lenDs_spec h.2 x hx

theorem St_buildD {t e : TypeId} {len : Nat} {parts : Array (Nat × Operand)} {z : Value} (l : Lay) {ds : List D} (ht : tyElem P t = some e) (hs : tySize P e = some l.len) (hz : tyZero P e = some (some z)) (hp : parts.toList.map (fun q => (q.1, ev f q.2)) = numb 0 (ds.map V.d))
    (hlen : ds.length = len) (hsmall : len * l.len ≤ 16777216) (hpos : 0 < l.len) (hg : lenDs l.len ds = true) (hd : dstOk n dst = true) :
    StQ P C n ⟨dst, .buildSlice t len parts, ty, pos, after, none⟩ f L (fun f' L' => f' = updo f dst (.d (.sl l ds)) ∧ L' = L) := by
  subst hlen
  intro a w β S hr K Qc hK
  obtain ⟨xs, e1, e2, e3⟩ := parts_RD hr parts.toList 0 ds hp
  have hxs : ∀ x ∈ xs, x.cells.size = l.len := by
    have key : ∀ (ds : List D) (xs : List Value), All2 (RD S w) ds xs → (∀ d ∈ ds, d.len? = l.len) → ∀ x ∈ xs, x.cells.size = l.len := by
      intro ds xs h
      induction h with
      | nil => simp
      | cons h1 _ ih =>
        intro hl x hx
        rcases List.mem_cons.1 hx with rfl | hx
        · have := DC_len h1.1
          rw [hl _ (by simp)] at this
          simpa using this
        · exact ih (fun d hd => hl d (by simp [hd])) x hx
    exact key ds xs e2 (lenDs_spec hg)
  have hpl : (parts.map fun q => (q.1, a.eval q.2)).toList = numb 0 xs := by rw [Array.toList_map]; exact e1
  have hflat := flat_RD (l := l) e2 (lenDs_spec hg)
  have hfl : ((xs.map (·.cells.toList)).flatten).length = ds.length * l.len := by
    have := (DCs_len _ _ _ hflat).1
    rwa [lens_replicate] at this
  have hcells : ∀ zc : Array Value, Instr.fill (fun i => some (i * l.len, l.len)) ((Array.range (ds.length * l.len)).map (zc[· % zc.size]!)) (numb 0 xs) = some ((xs.map (·.cells.toList)).flatten).toArray := by
    intro zc
    rw [fill_seq l.len xs 0 _ hxs (by simp [e3])]
    simp
  have hrun : (execOp a.eval ⟨dst, .buildSlice t ds.length parts, ty, pos, after, none⟩).run P w = .ok (.value (.slice (some ⟨w.heap.size, 0, none⟩) ds.length ds.length)) (w.alloc (.cells ((xs.map (·.cells.toList)).flatten).toArray e)) := by
    have hns : ¬ (ds.length * l.len > 2 ^ 24) := by omega
    simp only [execOp, Instr.buildSlice, Sem.run_bind, run_underlying (elem_some ht), Result.andThen, run_sizeOf' hs, if_neg hns]
    by_cases h0 : ds.length * l.len = 0
    · simp only [if_pos h0, Sem.run_bind, Sem.run_pure, Result.andThen, hpl]
      rw [hcells]
      simp [run_newRow, Result.andThen]
    · simp only [if_neg h0, Sem.run_bind, zeroValue_run hz, Sem.run_pure, Result.andThen, hpl]
      rw [hcells]
      simp [run_newRow, Result.andThen]
  unfold Oper.wp
  rw [hrun, Oper.upon_value]
  have hlv : ds.length ≤ 16777216 := Nat.le_trans (Nat.le_mul_of_pos_right _ hpos) hsmall
  have hr' := hr.newRead ((xs.map (·.cells.toList)).flatten).toArray e
  have old : ∀ b, S b → (w.alloc (.cells ((xs.map (·.cells.toList)).flatten).toArray e)).heap[b]? = w.heap[b]? := fun b hb => by
    have := hr.hp.fz b hb
    show (w.heap.push _)[b]? = _
    rw [Array.getElem?_push, if_neg (by omega)]
  refine hK _ _ _ _ _ _ (hr'.puto (dstOk_spec hd) (VR_sl_mk (Nat.le_refl _) (by simp only [lim]; omega) (.inr ⟨w.heap.size, 0, _, rfl, .inr rfl, DCs_later (fun _ h => .inl h) old _ _ _ hflat, fun j x hx => ?_⟩))) ⟨rfl, rfl⟩
  have : (w.alloc (.cells ((xs.map (·.cells.toList)).flatten).toArray e)).heap[w.heap.size]? = some (.cells ((xs.map (·.cells.toList)).flatten).toArray e) := by
    show (w.heap.push _)[w.heap.size]? = _
    simp
  unfold World.cell?
  simp only
  rw [this]
  simpa using hx

theorem AL_buildD {t e : TypeId} {len : Nat} {parts : Array (Nat × Operand)} {z : Value} (l : Lay) {ds : List D} (ht : tyElem P t = some e) (hs : tySize P e = some l.len) (hz : tyZero P e = some (some z)) (hp : parts.toList.map (fun q => (q.1, ev f q.2)) = numb 0 (ds.map V.d))
    (hlen : ds.length = len) (hsmall : len * l.len ≤ 16777216) (hpos : 0 < l.len) (hg : lenDs l.len ds = true) (hd : dstOk n dst = true)
    (h : AL P C n ops rest Q (updo f dst (.d (.sl l ds))) L) : AL P C n ops (⟨dst, .buildSlice t len parts, ty, pos, after, none⟩ :: rest) Q f L :=
  AL_stepQ rfl (St_buildD l ht hs hz hp hlen hsmall hpos hg hd) (fun f' L' ⟨h1, h2⟩ => by subst h1; subst h2; exact h)

theorem parts_congr {f f2 : Fr} {ps : List (Nat × Operand)} (h : ∀ q ∈ ps, ev f2 q.2 = ev f q.2) : ps.map (fun q => (q.1, ev f2 q.2)) = ps.map (fun q => (q.1, ev f q.2)) := List.map_congr_left fun q hq => by rw [h q hq]

theorem StA_of {o : Oper} (hg : o.guard = none) (hnr : readsHp o.op = false) {v : V} (h : ∀ C f' L', (∀ x ∈ o.op.operands, ev f' x = ev f x) → StQ P C n o f' L' (fun f'' L'' => f'' = updo f' o.dst v ∧ L'' = L')) : StA P n ops o f L v := by
  intro C _ f' hf L' _ a w β S hr K Qc hK
  exact runOr_none hg (h C f' L' (ev_looks hf) a w β S hr K Qc fun a' w' β' S' f'' L'' hr' ⟨e1, e2⟩ => by subst e1; subst e2; exact hK _ _ _ _ hr')
theorem StB_of {o : Oper} (hg : o.guard = none) {v : V} {L2 : Hp} (h : ∀ C f', (∀ x ∈ o.op.operands, ev f' x = ev f x) → StQ P C n o f' L (fun f'' L'' => f'' = updo f' o.dst v ∧ L'' = L2)) : StB P n ops o f L v L2 := by
  intro C _ f' hf a w β S hr K Qc hK
  exact runOr_none hg (h C f' (ev_looks hf) a w β S hr K Qc fun a' w' β' S' f'' L'' hr' ⟨e1, e2⟩ => by subst e1; subst e2; exact hK _ _ _ _ hr')

theorem DT_buildD {t e : TypeId} {len : Nat} {parts : Array (Nat × Operand)} {z : Value} (l : Lay) {ds : List D} (ho : ops[i]? = some ⟨dst, .buildSlice t len parts, ty, pos, after, none⟩) (ht : tyElem P t = some e) (hs : tySize P e = some l.len) (hz : tyZero P e = some (some z)) (hp : parts.toList.map (fun q => (q.1, ev f q.2)) = numb 0 (ds.map V.d))
    (hlen : ds.length = len) (hsmall : len * l.len ≤ 16777216) (hpos : 0 < l.len) (hg : lenDs l.len ds = true) (hd : dstOk n dst = true)
    (h : DT P n ops C Q r (updo f dst (.d (.sl l ds))) L) : DT P n ops C Q (i :: r) f L :=
  .a ho (StA_of rfl rfl fun C f' L' hf => St_buildD l ht hs hz (by
    rw [parts_congr (fun q hq => hf q.2 (by
      simp only [Op.operands]
      simp only [List.mem_toArray, List.mem_map]
      exact ⟨q, hq, rfl⟩))]
    exact hp) hlen hsmall hpos hg hd) h

theorem DT_append_sl {t e : TypeId} {x y : Operand} {l : Lay} {j m bytes : Nat} {bx : Box} {xs : List D} {z : Value} (ho : ops[i]? = some ⟨dst, callB .append #[x, y] #[t, t], ty, pos, after, none⟩) (hx : ev f x = .ref l j 0 m) (hy : ev f y = .d (.sl l xs)) (hL : L[j]? = some (some bx)) (hl : bx.l = l) (ht : tyElem P t = some e) (hs : tySize P e = some l.len) (hz : tyZero P e = some (some z)) (hzl : z.cells.size = l.len) (hb : tyBytes P e = some bytes) (hb128 : bytes ≤ 128)
    (hpos : 0 < l.len) (he : bx.ty = e) (hm : bx.es.length = m) (hlim : m + xs.length ≤ lim) (q : Nat) (hq : L.length = q) (hd : dstOk n dst = true)
    (h : DT P n ops C Q r (updo f dst (.ref l q 0 (m + (xs.map V.d).length))) (L.set j none ++ [some ⟨e, l, bx.es ++ xs.map V.d⟩])) : DT P n ops C Q (i :: r) f L :=
  .b ho rfl (StB_of rfl fun C f' hf => St_append ((hf x (by simp [Op.operands, Call.operands])).trans hx) hL hl ht hs hz hzl hb hb128 hpos he hm (Src_sl ((hf y (by simp [Op.operands, Call.operands])).trans hy)) (by simpa using hlim) q hq hd) h
theorem DT_append_nil {t e : TypeId} {x y : Operand} {l : Lay} {j m bytes : Nat} {bx : Box} {z : Value} (ho : ops[i]? = some ⟨dst, callB .append #[x, y] #[t, t], ty, pos, after, none⟩) (hx : ev f x = .ref l j 0 m) (hy : ev f y = nilsl) (hL : L[j]? = some (some bx)) (hl : bx.l = l) (ht : tyElem P t = some e) (hs : tySize P e = some l.len) (hz : tyZero P e = some (some z)) (hzl : z.cells.size = l.len) (hb : tyBytes P e = some bytes) (hb128 : bytes ≤ 128)
    (hpos : 0 < l.len) (he : bx.ty = e) (hm : bx.es.length = m) (hlim : m ≤ lim) (q : Nat) (hq : L.length = q) (hd : dstOk n dst = true)
    (h : DT P n ops C Q r (updo f dst (.ref l q 0 (m + 0))) (L.set j none ++ [some ⟨e, l, bx.es ++ []⟩])) : DT P n ops C Q (i :: r) f L :=
  .b ho rfl (StB_of rfl fun C f' hf => St_append (ys := []) ((hf x (by simp [Op.operands, Call.operands])).trans hx) hL hl ht hs hz hzl hb hb128 hpos he hm (Src_nil ((hf y (by simp [Op.operands, Call.operands])).trans hy)) (by simpa using hlim) q hq hd) h

theorem DT_store {t : TypeId} {x y : Operand} {l l' l'' : Lay} {j k o : Nat} {p : List Nat} {bx : Box} {e e0 e' v : V} (ho : ops[i]? = some ⟨dst, .store t x y, ty, pos, after, none⟩)
    (hx : ev f x = .ptr l j k p) (hy : ev f y = v) (hk : v.known = true) (hL : L[j]? = some (some bx)) (hbl : bx.l = l) (he : bx.es[k]? = some e)
    (hp : e.at? l p = some (o, l', e0)) (hq : l.at? p = some (o, l'')) (hlen : v.len? = l'.len) (hs : tySize P t = some l'.len) (hput : e.put? p v = some e') (hd : dstOk n dst = true)
    (h : DT P n ops C Q r (updo f dst .any) (L.set j (some { bx with es := bx.es.set k e' }))) : DT P n ops C Q (i :: r) f L :=
  .b ho rfl (StB_of rfl fun C f' hf => St_store ((hf x (by simp [Op.operands])).trans hx) ((hf y (by simp [Op.operands])).trans hy) hk hL hbl he hp hq hlen hs hput hd) h
end
end Go.Eng

/- The engine: slices that are made. -/
import Derived.Test.YtleahipnknainaaDoorEng6
import Derived.IntWalk
set_option linter.unusedVariables false
set_option linter.unusedSimpArgs false
namespace Go.Eng

theorem wrap_id {x : Int} (h0 : -9223372036854775808 ≤ x) (h1 : x ≤ 9223372036854775807) : IntKind.i64.wrap x = x := IntWalk.i64_in _ ⟨h0, h1⟩

def numb {A : Type} : Nat → List A → List (Nat × A)
  | _, [] => []
  | i, x :: r => (i, x) :: numb (i + 1) r

theorem foldl_put (off : Nat) : ∀ (vs : List Value) (k : Nat) (cells : Array Value), off + k + vs.length ≤ cells.size →
    ((vs.zipIdx k).foldl (fun (cs : Array Value) (q : Value × Nat) => cs.setIfInBounds (off + q.2) q.1) cells).toList = cells.toList.take (off + k) ++ vs ++ cells.toList.drop (off + k + vs.length)
  | [], k, cells, h => by simp
  | v :: vs, k, cells, h => by
    simp only [List.zipIdx_cons, List.foldl_cons]
    rw [foldl_put off vs (k + 1) _ (by simp at h ⊢; omega)]
    have hk : off + k < cells.size := by simp at h; omega
    apply List.ext_getElem?
    intro j
    have h1 : off + (k + 1) + vs.length ≤ (cells.setIfInBounds (off + k) v).toList.length := by simp at h ⊢; omega
    have h2 : off + k + (v :: vs).length ≤ cells.toList.length := by simpa using h
    rw [getElem?_splice _ _ _ h1, getElem?_splice _ _ _ h2]
    simp only [List.length_cons, Array.toList_setIfInBounds, List.getElem?_set]
    by_cases e : j = off + k
    · subst e
      rw [if_neg (by omega), if_pos rfl, if_pos (by simpa using hk), if_pos (by omega)]
      simp
    · by_cases e2 : off + (k + 1) ≤ j ∧ j < off + (k + 1) + vs.length
      · rw [if_pos e2, if_pos (by omega)]
        rw [show j - (off + k) = (j - (off + (k + 1))) + 1 by omega]
        simp
      · rw [if_neg e2, if_neg (fun h => e h.symm), if_neg (by omega)]

theorem fill_seq (size : Nat) : ∀ (xs : List Value) (i : Nat) (cells : Array Value), (∀ x ∈ xs, x.cells.size = size) → cells.size = (i + xs.length) * size →
    Instr.fill (fun i => some (i * size, size)) cells (numb i xs) = some ((cells.toList.take (i * size)) ++ (xs.map (·.cells.toList)).flatten).toArray
  | [], i, cells, h, hs => by
    simp only [numb, Instr.fill, List.map_nil, List.flatten_nil, List.append_nil]
    rw [List.take_of_length_le (by simpa using Nat.le_of_eq hs)]
  | x :: xs, i, cells, h, hs => by
    have hx : x.cells.size = size := h x (by simp)
    have hs' : cells.size = i * size + (size + xs.length * size) := by
      rw [hs, List.length_cons, Nat.add_mul, Nat.add_mul, Nat.one_mul]; omega
    simp only [numb, Instr.fill]
    rw [if_neg (by simp [hx, hs'] <;> omega)]
    have hf : (x.cells.zipIdx.foldl (fun (cs : Array Value) (q : Value × Nat) => cs.setIfInBounds (i * size + q.2) q.1) cells).toList = cells.toList.take (i * size) ++ x.cells.toList ++ cells.toList.drop (i * size + size) := by
      have := foldl_put (i * size) x.cells.toList 0 cells (by simp [hx]; omega)
      rw [← Array.foldl_toList, Array.toList_zipIdx]
      simpa [hx] using this
    have hlen : (x.cells.zipIdx.foldl (fun (cs : Array Value) (q : Value × Nat) => cs.setIfInBounds (i * size + q.2) q.1) cells).size = (i + 1 + xs.length) * size := by
      rw [← Array.length_toList, hf]
      simp [hx, hs']
      rw [Nat.add_mul, Nat.add_mul, Nat.one_mul]
      omega
    have := fill_seq size xs (i + 1) (x.cells.zipIdx.foldl (fun (cs : Array Value) (q : Value × Nat) => cs.setIfInBounds (i * size + q.2) q.1) cells) (fun y hy => h y (by simp [hy])) hlen
    refine Eq.trans this ?_
    rw [hf, List.take_append_of_le_length (by simp [hx, hs', Nat.add_mul] <;> omega), List.take_of_length_le (by simp [hx, hs', Nat.add_mul] <;> omega)]
    simp

theorem VCs_flat {β : Beta} {S : Nat → Prop} {w : World} {l : Lay} : ∀ (vs : List V) (xs : List Value), All2 (fun v x => VC β S w v x.cells.toList ∧ x.cells.toList.length = l.len) vs xs →
    VCs β S w (List.replicate vs.length l) vs (xs.map (·.cells.toList)).flatten
  | _, _, .nil => by simp [VCs]
  | _, _, .cons h1 h2 => by
    simp only [List.length_cons, List.replicate_succ, List.map_cons, List.flatten_cons, VCs]
    exact ⟨_, _, _, _, rfl, rfl, h1.2, h1.1, VCs_flat _ _ h2⟩

theorem getElem?_rep_flat {A : Type} (zs : List A) : ∀ (k j : Nat), j < k * zs.length → (List.replicate k zs).flatten[j]? = zs[j % zs.length]?
  | 0, j, h => by simp at h
  | k + 1, j, h => by
    simp only [List.replicate_succ, List.flatten_cons]
    by_cases hj : j < zs.length
    · rw [List.getElem?_append_left hj, Nat.mod_eq_of_lt hj]
    · rw [List.getElem?_append_right (by omega), getElem?_rep_flat zs k _ (by rw [Nat.add_mul, Nat.one_mul] at h; omega)]
      rw [Nat.mod_eq_sub_mod (a := j) (by omega)]
theorem VCs_rep {β : Beta} {S : Nat → Prop} {w : World} {l : Lay} {zv : V} {zs : List Value} (h : VC β S w zv zs) (hl : zs.length = l.len) : ∀ k, VCs β S w (List.replicate k l) (List.replicate k zv) (List.replicate k zs).flatten
  | 0 => by simp [VCs]
  | k + 1 => by
    simp only [List.replicate_succ, List.flatten_cons, VCs]
    exact ⟨_, _, _, _, rfl, rfl, hl, h, VCs_rep h hl k⟩

section
variable {P : Program} {C : Cx} {n : Nat} {f : Fr} {L : Hp} {Q : AQ} {ops : Array Oper} {rest : List Oper} {dst : Option Tmp} {ty : TypeId} {pos : String} {after : Array Edge}

theorem parts_run (a : Act) : ∀ (ps : List (Nat × Operand)) (i : Nat) (vs : List V), ps.map (fun q => (q.1, ev f q.2)) = numb i vs → ∀ w β S, Rel C n f L a w β S → ∃ xs, ps.map (fun q => (q.1, a.eval q.2)) = numb i xs ∧ All2 (VR β S w) vs xs ∧ xs.length = vs.length
  | [], i, vs, h, w, β, S, hr => by
    cases vs with
    | nil => exact ⟨[], rfl, .nil, rfl⟩
    | cons v r => simp [numb] at h
  | q :: ps, i, vs, h, w, β, S, hr => by
    cases vs with
    | nil => simp [numb] at h
    | cons v r =>
      simp only [List.map_cons, numb, List.cons.injEq, Prod.mk.injEq] at h
      obtain ⟨⟨h1, h2⟩, h3⟩ := h
      obtain ⟨xs, e1, e2, e3⟩ := parts_run a ps (i + 1) r h3 w β S hr
      refine ⟨a.eval q.2 :: xs, by simp [numb, e1, h1], .cons ?_ e2, by simp [e3]⟩
      have := rel_ev hr q.2
      rwa [h2] at this

def goodV (k : Nat) (v : V) : Bool := v.known && Nat.beq v.len? k
theorem goodV_spec {k : Nat} {v : V} (h : goodV k v = true) : v.known = true ∧ v.len? = k := by
  simp only [goodV, Bool.and_eq_true] at h
  exact ⟨h.1, Nat.eq_of_beq_eq_true h.2⟩
def goodVs (k : Nat) : List V → Bool
  | [] => true
  | v :: r => goodV k v && goodVs k r
theorem good_all {β : Beta} {S : Nat → Prop} {w : World} {k : Nat} {vs : List V} {xs : List Value} (h : All2 (VR β S w) vs xs) (hg : goodVs k vs = true) : All2 (fun v x => VC β S w v x.cells.toList ∧ x.cells.toList.length = k) vs xs := by
  induction h with
  | nil => exact .nil
  | cons h1 _ ih =>
    simp only [goodVs, Bool.and_eq_true] at hg
    obtain ⟨g1, g2⟩ := goodV_spec hg.1
    have := known_cells h1 g1
    exact .cons ⟨this.1, by rw [this.2, g2]⟩ (ih hg.2)

theorem AL_buildSlice {t e : TypeId} {len : Nat} {parts : Array (Nat × Operand)} {z : Value} (l : Lay) {vs : List V} (ht : tyElem P t = some e) (hs : tySize P e = some l.len) (hz : tyZero P e = some (some z)) (hp : parts.toList.map (fun q => (q.1, ev f q.2)) = numb 0 vs)
    (hlen : vs.length = len) (hsmall : len * l.len ≤ 16777216) (hpos : 0 < l.len) (hg : goodVs l.len vs = true) (m : Nat) (hm : L.length = m) (hd : dstOk n dst = true)
    (h : AL P C n ops rest Q (updo f dst (.ref l m 0 len)) (L ++ [some ⟨e, l, vs⟩])) : AL P C n ops (⟨dst, .buildSlice t len parts, ty, pos, after, none⟩ :: rest) Q f L := by
  subst hm
  subst hlen
  refine AL_stepQ (Z := fun f' L' => f' = updo f dst (.ref l L.length 0 vs.length) ∧ L' = L ++ [some ⟨e, l, vs⟩]) rfl ?_ (fun f' L' ⟨h1, h2⟩ => by subst h1; subst h2; exact h)
  intro a w β S hr K Qc hK
  obtain ⟨xs, e1, e2, e3⟩ := parts_run a parts.toList 0 vs hp w β S hr
  have hall := good_all e2 hg
  have hxs : ∀ x ∈ xs, x.cells.size = l.len := by
    clear e1 e3
    intro x hx
    have key : ∀ (vs : List V) (xs : List Value), All2 (fun v x => VC β S w v x.cells.toList ∧ x.cells.toList.length = l.len) vs xs → ∀ x ∈ xs, x.cells.size = l.len := by
      intro vs xs h
      induction h with
      | nil => simp
      | cons h1 _ ih =>
        intro x hx
        rcases List.mem_cons.1 hx with rfl | hx
        · simpa using h1.2
        · exact ih x hx
    exact key vs xs hall x hx
  have hpl : (parts.map fun q => (q.1, a.eval q.2)).toList = numb 0 xs := by rw [Array.toList_map]; exact e1
  have hfl : ((xs.map (·.cells.toList)).flatten).length = vs.length * l.len := by
    have := (VCs_len _ _ _ (VCs_flat vs xs hall)).1
    rwa [lens_replicate] at this
  have hcells : ∀ zc : Array Value, Instr.fill (fun i => some (i * l.len, l.len)) ((Array.range (vs.length * l.len)).map (zc[· % zc.size]!)) (numb 0 xs) = some ((xs.map (·.cells.toList)).flatten).toArray := by
    intro zc
    rw [fill_seq l.len xs 0 _ hxs (by simp [e3])]
    simp
  have hrun : (execOp a.eval ⟨dst, .buildSlice t vs.length parts, ty, pos, after, none⟩).run P w = .ok (.value (.slice (some ⟨w.heap.size, 0, none⟩) vs.length vs.length)) (w.alloc (.cells ((xs.map (·.cells.toList)).flatten).toArray e)) := by
    have hns : ¬ (vs.length * l.len > 2 ^ 24) := by omega
    simp only [execOp, Instr.buildSlice, Sem.run_bind, run_underlying (elem_some ht), Result.andThen, run_sizeOf' hs, if_neg hns]
    by_cases h0 : vs.length * l.len = 0
    · simp only [if_pos h0, Sem.run_bind, Sem.run_pure, Result.andThen, hpl]
      rw [hcells]
      simp [run_newRow, Result.andThen]
    · simp only [if_neg h0, Sem.run_bind, zeroValue_run hz, Sem.run_pure, Result.andThen, hpl]
      rw [hcells]
      simp [run_newRow, Result.andThen]
  unfold Oper.wp
  rw [hrun, Oper.upon_value]
  have hlv : vs.length ≤ 16777216 := Nat.le_trans (Nat.le_mul_of_pos_right _ hpos) hsmall
  have hn : NewBox β S w ((xs.map (·.cells.toList)).flatten).toArray vs.length ⟨e, l, vs⟩ := ⟨by simpa using hfl, Nat.le_refl _, by simp only [maxLen]; omega, by simp only [lim]; omega, _, VCs_flat vs xs hall, fun j x hx => by simpa using hx⟩
  have hr' := hr.new (w' := w.alloc (.cells ((xs.map (·.cells.toList)).flatten).toArray e)) hn rfl rfl rfl rfl
  refine hK _ _ _ _ _ _ (hr'.puto (dstOk_spec hd) (VR_ref_mk (.inr ⟨w.heap.size, vs.length, setβ_self _ _ _, ?_, by omega⟩))) ⟨rfl, rfl⟩
  simp

theorem AL_makeSlice {t e : TypeId} {x : Operand} {bytes k : Nat} {kd : IntKind} (l : Lay) {zv : V} (ht : tyElem P t = some e) (hs : tySize P e = some l.len) (hz : ZeroOf P e l zv) (hb : tyBytes P e = some bytes) (hx : ev f x = .d (.c (.int kd k)))
    (hk : k ≤ lim) (hbk : k * bytes ≤ 281474976710656) (hpos : 0 < l.len) (m : Nat) (hm : L.length = m) (hd : dstOk n dst = true)
    (h : AL P C n ops rest Q (updo f dst (.ref l m 0 k)) (L ++ [some ⟨e, l, List.replicate k zv⟩])) : AL P C n ops (⟨dst, .makeSlice t x x, ty, pos, after, none⟩ :: rest) Q f L := by
  subst hm
  refine AL_stepQ (Z := fun f' L' => f' = updo f dst (.ref l L.length 0 k) ∧ L' = L ++ [some ⟨e, l, List.replicate k zv⟩]) rfl ?_ (fun f' L' ⟨h1, h2⟩ => by subst h1; subst h2; exact h)
  intro a w β S hr K Qc hK
  obtain ⟨z, hz, hsz, hvc⟩ := hz
  have hv := eval_c hr hx
  obtain ⟨i, hi, hby⟩ := Option.map_eq_some_iff.1 hb
  have hw : IntKind.i64.wrap (k : Int) = k := wrap_id (by omega) (by have : k ≤ 1099511627776 := hk; omega)
  have hcur : ∀ (zc : Array Value), zc = z.cells → ((Array.range (k * l.len)).map (zc[· % zc.size]!)).toList = (List.replicate k z.cells.toList).flatten := by
    rintro zc rfl
    apply List.ext_getElem?
    intro j
    simp only [Array.toList_map, Array.toList_range, List.getElem?_map, List.getElem?_range]
    by_cases hj : j < k * l.len
    · rw [getElem?_rep_flat _ _ _ (by simpa [hsz] using hj)]
      have hlt : j % z.cells.size < z.cells.size := Nat.mod_lt _ (by omega)
      simp [hj, hlt, Array.getElem!_eq_getD, Array.getD]
    · rw [List.getElem?_eq_none (by simpa using hj), List.getElem?_eq_none]
      · rfl
      · have := (VCs_len _ _ _ (VCs_rep (hvc β S w) (l := l) (by simpa using hsz) k)).1
        rw [lens_replicate] at this
        omega
  have hrun : ∃ cur : Array Value, cur.toList = (List.replicate k z.cells.toList).flatten ∧ (execOp a.eval ⟨dst, .makeSlice t x x, ty, pos, after, none⟩).run P w = .ok (.value (.slice (some ⟨w.heap.size, 0, none⟩) k k)) (w.alloc (.cells cur e)) := by
    have hti : (typeInfo e).run P w = .ok i w := by simp [typeInfo, hi, Result.andThen]
    have hlarge : (decide ((k : Int) < 0) || decide (((i.bytes : Int) * k) > 2 ^ 48)) = false := by
      have h2 : i.bytes * k ≤ 281474976710656 := by rw [hby, Nat.mul_comm]; exact hbk
      have h3 : ((i.bytes : Int) * (k : Int)) ≤ 281474976710656 := by
        have h4 := Int.ofNat_le.2 h2
        rw [Int.natCast_mul] at h4
        exact h4
      rw [Bool.or_eq_false_iff]
      exact ⟨decide_eq_false (by omega), decide_eq_false (by omega)⟩
    have har : ∀ q, (askRoom q).run P w = .ok () w := fun q => by unfold askRoom; split <;> rfl
    by_cases h0 : k * l.len = 0
    · have hk0 : k = 0 := by
        rcases Nat.mul_eq_zero.1 h0 with h | h
        · exact h
        · omega
      subst hk0
      refine ⟨#[], rfl, ?_⟩
      simp only [execOp, hv, Instr.makeSlice, Sem.run_bind, run_underlying (elem_some ht), Result.andThen, asInt, asIntOf, Sem.run_pure, hti, hw, hlarge, har, run_sizeOf' hs]
      simp [har, run_sizeOf' hs, run_newRow, Result.andThen, Array.range_zero']
    · refine ⟨_, hcur z.cells rfl, ?_⟩
      have hne : ¬ ((k : Int) < 0) := by omega
      simp only [execOp, hv, Instr.makeSlice, Sem.run_bind, run_underlying (elem_some ht), Result.andThen, asInt, asIntOf, Sem.run_pure, hti, hw, hlarge, har, run_sizeOf' hs, Int.toNat_natCast]
      simp only [Bool.false_eq_true, false_or, hne, or_false, if_false, gt_iff_lt, Int.lt_irrefl, Sem.run_bind, Sem.run_pure, har, run_sizeOf' hs, Result.andThen, h0, zeroValue_run hz, run_newRow, decide_false]
      simp [har, run_sizeOf' hs, Result.andThen, h0, zeroValue_run hz, run_newRow, hne]
  obtain ⟨cur, hc, hrun⟩ := hrun
  unfold Oper.wp
  rw [hrun, Oper.upon_value]
  have hrep := VCs_rep (hvc β S w) (l := l) (by simpa using hsz) k
  have hn : NewBox β S w cur k ⟨e, l, List.replicate k zv⟩ := ⟨by
    have := (VCs_len _ _ _ hrep).1
    rw [lens_replicate] at this
    rw [← Array.length_toList, hc]
    simpa using this, by simp, by have : k ≤ 1099511627776 := hk; simp only [maxLen]; omega, by simpa using hk, _, by simpa using hrep, fun j x hx => by rw [← hc] at hx; simpa using hx⟩
  have hr' := hr.new (w' := w.alloc (.cells cur e)) hn rfl rfl rfl rfl
  refine hK _ _ _ _ _ _ (hr'.puto (dstOk_spec hd) (VR_ref_mk (.inr ⟨w.heap.size, k, setβ_self _ _ _, ?_, by omega⟩))) ⟨rfl, rfl⟩
  simp
end
end Go.Eng

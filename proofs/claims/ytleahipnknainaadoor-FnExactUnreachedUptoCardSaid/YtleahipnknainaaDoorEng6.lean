/- The engine: operations that make or write memory. -/
import Derived.Test.YtleahipnknainaaDoorEng5
import Derived.Maps.AppendAt
import Derived.Laws.MakeOwn
set_option linter.unusedVariables false
set_option linter.unusedSimpArgs false
namespace Go.Eng

def setβ (β : Beta) (i : Nat) (o : Option (Nat × Nat)) : Beta := fun j => if j = i then some o else β j
theorem setβ_self (β : Beta) (i : Nat) (o : Option (Nat × Nat)) : setβ β i o i = some o := by simp [setβ]
theorem setβ_ne (β : Beta) {i j : Nat} (o : Option (Nat × Nat)) (h : j ≠ i) : setβ β i o j = β j := by simp [setβ, h]

theorem BoxR.lt {β : Beta} {S : Nat → Prop} {w : World} {i b Cp : Nat} {bx : Box} (h : BoxR β S w i bx) (hb : β i = some (some (b, Cp))) : b < w.heap.size := by
  rcases h.2 with ⟨h1, _⟩ | ⟨b', C', cur, ds, h1, h2, _⟩
  · rw [h1] at hb; cases hb
  · rw [h1] at hb
    injection hb with hb; injection hb with hb; injection hb with hb hb'
    subst hb
    exact (Array.getElem?_eq_some_iff.1 h2).1

theorem later_new {β : Beta} {S : Nat → Prop} {w w' : World} {m : Nat} {o : Option (Nat × Nat)} (hm : β m = none) (hb : ∀ b, S b → w'.heap[b]? = w.heap[b]?) : Later β S w (setβ β m o) S w' := by
  refine ⟨fun i o' h => ?_, fun _ h => h, hb⟩
  by_cases e : i = m
  · subst e; rw [hm] at h; cases h
  · rw [setβ_ne _ _ e]; exact h

theorem get_snoc {A : Type} (l : List A) (x : A) (i : Nat) (y : A) (h : (l ++ [x])[i]? = some y) : (i < l.length ∧ l[i]? = some y) ∨ (i = l.length ∧ x = y) := by
  rcases Nat.lt_trichotomy i l.length with h1 | h1 | h1
  · rw [List.getElem?_append_left h1] at h; exact .inl ⟨h1, h⟩
  · subst h1; simp at h; exact .inr ⟨rfl, h⟩
  · rw [List.getElem?_eq_none (by simp; omega)] at h; cases h

/-- What a new box needs. -/
structure NewBox (β : Beta) (S : Nat → Prop) (w : World) (cur : Array Value) (Cp : Nat) (bx : Box) : Prop where
  sz : cur.size = Cp * bx.l.len
  le : bx.es.length ≤ Cp
  mx : Cp ≤ maxLen
  li : bx.es.length ≤ lim
  ds : ∃ ds : List Value, VCs β S w (List.replicate bx.es.length bx.l) bx.es ds ∧ ∀ (j : Nat) (x : Value), ds[j]? = some x → cur[j]? = some x

section
variable {P : Program} {C : Cx} {n : Nat} {f : Fr} {L : Hp} {Q : AQ}

theorem Rel.new {a : Act} {w w' : World} {β : Beta} {S : Nat → Prop} (h : Rel C n f L a w β S) {cur : Array Value} {Cp : Nat} {bx : Box} (hn : NewBox β S w cur Cp bx)
    (hw : w'.heap = w.heap.push (.cells cur bx.ty (0, 0))) (ho : w'.os = w.os) (ht : w'.tape = w.tape) (hu : w'.output = w.output) :
    Rel C n f (L ++ [some bx]) a w' (setβ β L.length (some (w.heap.size, Cp))) S := by
  have old : ∀ b, b < w.heap.size → w'.heap[b]? = w.heap[b]? := fun b hb => by rw [hw, Array.getElem?_push, if_neg (by omega)]
  have lat : Later β S w (setβ β L.length (some (w.heap.size, Cp))) S w' := later_new (h.hp.un _ (Nat.le_refl _)) fun b hb => old b (h.hp.fz b hb)
  have hsz : w'.heap.size = w.heap.size + 1 := by rw [hw]; simp
  obtain ⟨ds, hds, hcur⟩ := hn.ds
  have cases_ : ∀ i b, (L ++ [some bx])[i]? = some (some b) → (i < L.length ∧ L[i]? = some (some b)) ∨ (i = L.length ∧ bx = b) := fun i b hi => by
    rcases get_snoc _ _ _ _ hi with h1 | ⟨h1, h2⟩
    · exact .inl h1
    · exact .inr ⟨h1, by injection h2⟩
  refine h.later lat ⟨?_, ?_, ?_, ?_, ?_⟩ ?_ h.fz ?_
  · intro i b hi
    rcases cases_ i b hi with ⟨h1, h2⟩ | ⟨rfl, rfl⟩
    · exact BoxR_later lat (fun b' c hb => old b' ((h.hp.bx i b h2).lt hb)) (h.hp.bx i b h2)
    · exact ⟨hn.li, .inr ⟨w.heap.size, Cp, cur, ds, setβ_self _ _ _, by rw [hw]; simp, hn.sz, ⟨hn.le, hn.mx⟩, VCs_later lat _ _ _ hds, hcur⟩⟩
  · intro i j b bx1 bx2 c c' hi hj hbi hbj
    rcases cases_ i _ hi with ⟨h1, h2⟩ | ⟨rfl, _⟩ <;> rcases cases_ j _ hj with ⟨k1, k2⟩ | ⟨rfl, _⟩
    · rw [setβ_ne _ _ (by omega)] at hbi hbj
      exact h.hp.inj i j b bx1 bx2 c c' h2 k2 hbi hbj
    · rw [setβ_ne _ _ (by omega)] at hbi
      rw [setβ_self] at hbj
      injection hbj with hbj; injection hbj with hbj; injection hbj with hbj _
      have := (h.hp.bx i _ h2).lt hbi
      omega
    · rw [setβ_ne _ _ (by omega)] at hbj
      rw [setβ_self] at hbi
      injection hbi with hbi; injection hbi with hbi; injection hbi with hbi _
      have := (h.hp.bx j _ k2).lt hbj
      omega
    · rfl
  · intro i bx1 b c hi hbi hs
    rcases cases_ i _ hi with ⟨h1, h2⟩ | ⟨rfl, _⟩
    · rw [setβ_ne _ _ (by omega)] at hbi
      exact h.hp.own i bx1 b c h2 hbi hs
    · rw [setβ_self] at hbi
      injection hbi with hbi; injection hbi with hbi; injection hbi with hbi _
      have := h.hp.fz b hs
      omega
  · intro b hb
    have := h.hp.fz b hb
    omega
  · intro i hi
    simp at hi
    rw [setβ_ne _ _ (by omega)]
    exact h.hp.un i (by omega)
  · intro i bx1 b c hi hbi
    rcases cases_ i _ hi with ⟨h1, h2⟩ | ⟨rfl, _⟩
    · rw [setβ_ne _ _ (by omega)] at hbi
      exact h.own i bx1 b c h2 hbi
    · rw [setβ_self] at hbi
      injection hbi with hbi; injection hbi with hbi; injection hbi with hbi _
      have := h.pres.size
      exact .inr (by omega)
  · exact ⟨ho.trans h.pres.os, ht.trans h.pres.tape, hu.trans h.pres.output, by have := h.pres.size; omega, fun b hb hd => (old b (by have := h.pres.size; omega)).trans (h.pres.block b hb hd)⟩

/-- How many cells a value takes. -/
def D.len? : D → Nat
  | .agg fs _ => Lay.lens fs
  | _ => 1
def V.len? : V → Nat
  | .agg fs _ => Lay.lens fs
  | .d x => x.len?
  | _ => 1
theorem DC_len {S : Nat → Prop} {w : World} {x : D} {cs : List Value} (h : DC S w x cs) : cs.length = x.len? := by
  cases x with
  | c x => simp only [DC] at h; simp [h.1, D.len?]
  | agg fs ds => simp only [DC] at h; exact (DCs_len _ _ _ h).1
  | sl l xs => simp only [DC] at h; obtain ⟨A, m, cap, rfl, _⟩ := h; rfl
  | rp l x p => simp only [DC] at h; obtain ⟨_, _, _, _, _, _, rfl, _⟩ := h; rfl
  | fn k caps => simp only [DC] at h; obtain ⟨xs, rfl, _⟩ := h; rfl
theorem VC_len {β : Beta} {S : Nat → Prop} {w : World} {v : V} {cs : List Value} (hv : v ≠ .any) (h : VC β S w v cs) : cs.length = v.len? := by
  cases v with
  | any => exact absurd rfl hv
  | d x => simp only [VC] at h; exact DC_len h
  | agg fs vs => simp only [VC] at h; exact (VCs_len _ _ _ h).1
  | tup vs => simp only [VC] at h
  | ref l i off m =>
    simp only [VC] at h
    rcases h with ⟨_, rfl, _⟩ | ⟨_, _, _, rfl, _⟩ <;> rfl
  | ptr l i k p => simp only [VC] at h; obtain ⟨_, _, _, _, _, _, rfl⟩ := h; rfl
  | fn k caps => simp only [VC] at h; obtain ⟨xs, rfl, _⟩ := h; rfl

def V.known : V → Bool
  | .any | .tup _ => false
  | _ => true
theorem known_cells {β : Beta} {S : Nat → Prop} {w : World} {v : V} {x : Value} (h : VR β S w v x) (hk : v.known = true) : VC β S w v x.cells.toList ∧ x.cells.toList.length = v.len? := by
  cases v with
  | any => cases hk
  | tup _ => cases hk
  | _ =>
    rcases h with h | ⟨h, _⟩
    · cases h
    · exact ⟨h, VC_len (by simp) h⟩

def ZeroOf (P : Program) (t : TypeId) (l : Lay) (zv : V) : Prop := ∃ z : Value, tyZero P t = some (some z) ∧ z.cells.size = l.len ∧ ∀ β S w, VC β S w zv z.cells.toList
theorem zeroValue_run {t : TypeId} {z : Value} (h : tyZero P t = some (some z)) (w : World) : (zeroValue t).run P w = .ok z w := by
  obtain ⟨i, hi, hz⟩ := Option.map_eq_some_iff.1 h
  simp [zeroValue, typeInfo, hi, hz, Result.andThen]

theorem at_nil (l : Lay) : l.at? [] = some (0, l) := by cases l <;> rfl
theorem VR_ptr0 {β : Beta} {S : Nat → Prop} {w : World} {l : Lay} {i b Cp : Nat} (h1 : β i = some (some (b, Cp))) : VR β S w (.ptr l i 0 []) (.pointer (some ⟨b, 0, none⟩)) := by
  have := VR_ptr_mk (S := S) (w := w) (k := 0) h1 (at_nil l)
  simpa using this
theorem run_newVar (t : TypeId) (v : Value) (w : World) : (newVar t v).run P w = .ok ⟨w.heap.size, 0, none⟩ (w.alloc (.cells v.cells t)) := rfl
theorem run_newRow (t : TypeId) (cs : Array Value) (w : World) : (newRow t cs).run P w = .ok ⟨w.heap.size, 0, none⟩ (w.alloc (.cells cs t)) := rfl

theorem AL_alloc {ops : Array Oper} {rest : List Oper} {dst : Option Tmp} {ty : TypeId} {pos : String} {after : Array Edge} {e : TypeId} {l : Lay} {zv : V} (hz : ZeroOf P e l zv) (m : Nat) (hm : L.length = m) (hd : dstOk n dst = true)
    (h : AL P C n ops rest Q (updo f dst (.ptr l m 0 [])) (L ++ [some ⟨e, l, [zv]⟩])) : AL P C n ops (⟨dst, .alloc e, ty, pos, after, none⟩ :: rest) Q f L := by
  subst hm
  refine AL_stepQ (Z := fun f' L' => f' = updo f dst (.ptr l L.length 0 []) ∧ L' = L ++ [some ⟨e, l, [zv]⟩]) rfl ?_ (fun f' L' ⟨h1, h2⟩ => by subst h1; subst h2; exact h)
  intro a w β S hr K Qc hK
  obtain ⟨z, hz, hsz, hvc⟩ := hz
  have hrun : (execOp a.eval ⟨dst, .alloc e, ty, pos, after, none⟩).run P w = .ok (.value (.pointer (some ⟨w.heap.size, 0, none⟩))) (w.alloc (.cells z.cells e)) := by
    simp [execOp, Instr.alloc, zeroValue_run hz, run_newVar, Result.andThen]
  unfold Oper.wp
  rw [hrun, Oper.upon_value]
  have hn : NewBox β S w z.cells 1 ⟨e, l, [zv]⟩ := ⟨by simp [hsz], Nat.le_refl _, by simp [maxLen], by simp [lim], z.cells.toList, by
    simp only [List.length_singleton, List.replicate_one, VCs]
    exact ⟨_, _, z.cells.toList, [], rfl, by simp, by simpa using hsz, hvc β S w, rfl, rfl⟩, fun j x hx => by simpa using hx⟩
  have hr' := hr.new (w' := w.alloc (.cells z.cells e)) hn rfl rfl rfl rfl
  exact hK _ _ _ _ _ _ (hr'.puto (dstOk_spec hd) (VR_ptr0 (setβ_self _ _ _))) ⟨rfl, rfl⟩

theorem AL_box {ops : Array Oper} {rest : List Oper} {dst : Option Tmp} {ty : TypeId} {pos : String} {after : Array Edge} {e : TypeId} {x : Operand} {v : V} (l : Lay) (hx : ev f x = v) (hk : v.known = true) (hl : v.len? = l.len) (m : Nat) (hm : L.length = m) (hd : dstOk n dst = true)
    (h : AL P C n ops rest Q (updo f dst (.ptr l m 0 [])) (L ++ [some ⟨e, l, [v]⟩])) : AL P C n ops (⟨dst, .box e x, ty, pos, after, none⟩ :: rest) Q f L := by
  subst hm
  refine AL_stepQ (Z := fun f' L' => f' = updo f dst (.ptr l L.length 0 []) ∧ L' = L ++ [some ⟨e, l, [v]⟩]) rfl ?_ (fun f' L' ⟨h1, h2⟩ => by subst h1; subst h2; exact h)
  intro a w β S hr K Qc hK
  have hv := rel_ev hr x
  rw [hx] at hv
  obtain ⟨hvc, hsz⟩ := known_cells hv hk
  have hrun : (execOp a.eval ⟨dst, .box e x, ty, pos, after, none⟩).run P w = .ok (.value (.pointer (some ⟨w.heap.size, 0, none⟩))) (w.alloc (.cells (a.eval x).cells e)) := by
    simp [execOp, Instr.box, run_newVar, Result.andThen]
  unfold Oper.wp
  rw [hrun, Oper.upon_value]
  have hn : NewBox β S w (a.eval x).cells 1 ⟨e, l, [v]⟩ := ⟨by simpa [hl] using hsz, Nat.le_refl _, by simp [maxLen], by simp [lim], (a.eval x).cells.toList, by
    simp only [List.length_singleton, List.replicate_one, VCs]
    exact ⟨_, _, (a.eval x).cells.toList, [], rfl, by simp, by rw [hsz, hl], hvc, rfl, rfl⟩, fun j x hx => by simpa using hx⟩
  have hr' := hr.new (w' := w.alloc (.cells (a.eval x).cells e)) hn rfl rfl rfl rfl
  exact hK _ _ _ _ _ _ (hr'.puto (dstOk_spec hd) (VR_ptr0 (setβ_self _ _ _))) ⟨rfl, rfl⟩


theorem getElem?_splice {A : Type} (cur : List A) (o : Nat) (vs : List A) (h : o + vs.length ≤ cur.length) (j : Nat) :
    (cur.take o ++ vs ++ cur.drop (o + vs.length))[j]? = if o ≤ j ∧ j < o + vs.length then vs[j - o]? else cur[j]? := by
  by_cases h1 : j < o
  · rw [List.append_assoc, List.getElem?_append_left (by simp; omega), List.getElem?_take_of_lt h1, if_neg (by omega)]
  · by_cases h2 : j < o + vs.length
    · rw [List.append_assoc, List.getElem?_append_right (by simp; omega), List.getElem?_append_left (by simp; omega), if_pos ⟨by omega, h2⟩]
      congr 1
      simp; omega
    · rw [List.getElem?_append_right (by simp; omega), if_neg (by omega), List.getElem?_drop]
      congr 1
      simp; omega

/-- A box's element k is turned: memory behind the store. -/
theorem Rel.store {a : Act} {w : World} {β : Beta} {S : Nat → Prop} (h : Rel C n f L a w β S) {i k b' C' o : Nat} {bx : Box} {e' : V} {c1 c2 c3 d1 d3 new ds : List Value} {cur : Array Value} (hL : L[i]? = some (some bx)) (h1 : β i = some (some (b', C')))
    (h2 : w.heap[b']? = some (.cells cur bx.ty (0, 0))) (h3 : cur.size = C' * bx.l.len) (h4 : bx.es.length ≤ C' ∧ C' ≤ maxLen) (h5 : VCs β S w (List.replicate bx.es.length bx.l) bx.es ds) (h6 : ∀ (j : Nat) (x : Value), ds[j]? = some x → cur[j]? = some x)
    (hn : new.length = c2.length) (ho : c1.length = o) (hds : ds = d1 ++ (c1 ++ c2 ++ c3) ++ d3) (hd1 : d1.length = k * bx.l.len) (hnew : VCs β S w (List.replicate bx.es.length bx.l) (bx.es.set k e') (d1 ++ (c1 ++ new ++ c3) ++ d3))
    (hs : ∀ u ∈ new, Value.scalar u = true) :
    ∃ w', (storeCells ⟨b', k * bx.l.len + o, none⟩ new).run P w = .ok () w' ∧ Rel C n f (L.set i (some { bx with es := bx.es.set k e' })) a w' β S := by
    have hli := (h.hp.bx i bx hL).1
    have hfit : k * bx.l.len + o + new.length ≤ cur.size := by
      have hl := (VCs_len _ _ _ h5).1
      rw [lens_replicate] at hl
      have : ds.length = d1.length + (c1.length + c2.length + c3.length) + d3.length := by rw [hds]; simp; omega
      have h7 : bx.es.length * bx.l.len ≤ C' * bx.l.len := Nat.mul_le_mul_right _ h4.1
      omega
    have hrun := run_storeCells_at P b' (k * bx.l.len + o) bx.ty new 0 cur w h2 (by simpa using hfit) (fun v hv => oneCell_of_scalar (hs v hv))
    simp only [Nat.add_zero] at hrun
    refine ⟨_, hrun, ?_⟩
    have hbS : ¬ S b' := h.hp.own i bx b' C' hL h1
    have lat : Later β S w β S (w.setRow b' (cur.toList.take (k * bx.l.len + o) ++ new ++ cur.toList.drop (k * bx.l.len + o + new.length)).toArray) :=
      ⟨fun _ _ h => h, fun _ h => h, fun c hc => setRow_other w b' c _ (fun e => hbS (e ▸ hc))⟩
    have hLi : i < L.length := lt_of_get hL
    have cases_ : ∀ j bx', (L.set i (some { bx with es := bx.es.set k e' }))[j]? = some (some bx') → (j ≠ i ∧ L[j]? = some (some bx')) ∨ (j = i ∧ bx' = { bx with es := bx.es.set k e' }) := fun j bx' hj => by
      rw [List.getElem?_set] at hj
      by_cases e : i = j
      · subst e
        rw [if_pos rfl, if_pos hLi] at hj
        exact .inr ⟨rfl, by injection hj with hj; injection hj with hj; exact hj.symm⟩
      · rw [if_neg e] at hj
        exact .inl ⟨fun h => e h.symm, hj⟩
    have live : ∀ j bx', (L.set i (some { bx with es := bx.es.set k e' }))[j]? = some (some bx') → ∃ bx'', L[j]? = some (some bx'') := fun j bx' hj => by
      rcases cases_ j bx' hj with ⟨_, h⟩ | ⟨rfl, _⟩
      · exact ⟨_, h⟩
      · exact ⟨_, hL⟩
    have hsz : (w.setRow b' (cur.toList.take (k * bx.l.len + o) ++ new ++ cur.toList.drop (k * bx.l.len + o + new.length)).toArray).heap.size = w.heap.size := by simp [World.setRow]
    refine h.later lat ⟨?_, ?_, ?_, ?_, ?_⟩ ?_ h.fz ?_
    · intro j bx' hj
      rcases cases_ j bx' hj with ⟨hne, hj'⟩ | ⟨rfl, rfl⟩
      · exact BoxR_later lat (fun c cc hc => setRow_other w b' c _ (fun e => hne (h.hp.inj j i b' bx' bx cc C' hj' hL (e ▸ hc) h1))) (h.hp.bx j bx' hj')
      · refine ⟨by simpa using hli, .inr ⟨b', C', _, d1 ++ (c1 ++ new ++ c3) ++ d3, h1, setRow_heap w b' cur _ _ _ h2, ?_, by simpa using h4, by simpa using VCs_later lat _ _ _ hnew, ?_⟩⟩
        · have : (cur.toList.take (k * bx.l.len + o) ++ new ++ cur.toList.drop (k * bx.l.len + o + new.length)).length = cur.size := by simp; omega
          simpa [h3] using this
        · intro q x hx
          have hq : (cur.toList.take (k * bx.l.len + o) ++ new ++ cur.toList.drop (k * bx.l.len + o + new.length))[q]? = some x := by
            rw [getElem?_splice _ _ _ (by simpa using hfit)]
            have e1 : d1 ++ (c1 ++ new ++ c3) ++ d3 = (d1 ++ c1) ++ new ++ (c3 ++ d3) := by simp
            have e2 : ds = (d1 ++ c1) ++ c2 ++ (c3 ++ d3) := by rw [hds]; simp
            have hl1 : (d1 ++ c1).length = k * bx.l.len + o := by simp [hd1, ho]
            rw [e1] at hx
            by_cases hq1 : q < k * bx.l.len + o
            · rw [if_neg (by omega)]
              rw [List.append_assoc, List.getElem?_append_left (by omega)] at hx
              have := h6 q x (by rw [e2, List.append_assoc, List.getElem?_append_left (by omega)]; exact hx)
              simpa using this
            · by_cases hq2 : q < k * bx.l.len + o + new.length
              · rw [if_pos ⟨by omega, hq2⟩]
                rw [List.append_assoc, List.getElem?_append_right (by omega), List.getElem?_append_left (by omega), hl1] at hx
                exact hx
              · rw [if_neg (by omega)]
                rw [List.getElem?_append_right (by simp at hl1 ⊢; omega)] at hx
                have := h6 q x (by rw [e2, List.getElem?_append_right (by simp at hl1 ⊢; omega)]; simpa [hn] using hx)
                simpa using this
          simpa using hq
    · intro j j' c bx1 bx2 cc cc' hj hj' hc hc'
      obtain ⟨y1, hy1⟩ := live j bx1 hj
      obtain ⟨y2, hy2⟩ := live j' bx2 hj'
      exact h.hp.inj j j' c y1 y2 cc cc' hy1 hy2 hc hc'
    · intro j bx1 c cc hj hc
      obtain ⟨y1, hy1⟩ := live j bx1 hj
      exact h.hp.own j y1 c cc hy1 hc
    · intro c hc
      rw [hsz]
      exact h.hp.fz c hc
    · intro j hj
      exact h.hp.un j (by simpa using hj)
    · intro j bx1 c cc hj hc
      obtain ⟨y1, hy1⟩ := live j bx1 hj
      exact h.own j y1 c cc hy1 hc
    · refine ⟨h.pres.os, h.pres.tape, h.pres.output, by rw [hsz]; exact h.pres.size, fun c hc hd => ?_⟩
      rw [setRow_other w b' c _ ?_]
      · exact h.pres.block c hc hd
      · intro e
        subst e
        rcases h.own i bx c C' hL h1 with h8 | h8
        · exact hd h8
        · omega

theorem storeVar_run {t : TypeId} {v : Value} {m : Nat} (hs : tySize P t = some m) (hv : v.cells.toList.length = m) (a : Addr) (w : World) : (storeVar t a v).run P w = (storeCells a v.cells.toList).run P w := by
  have h2 : ¬ (v.cells.size ≠ m) := by simpa using hv
  simp only [storeVar, Sem.run_bind, run_sizeOf' hs, Result.andThen, if_neg h2, Sem.run_pure]

theorem St_store {dst : Option Tmp} {ty : TypeId} {pos : String} {after : Array Edge} {t : TypeId} {x y : Operand} {l l' l'' : Lay} {i k o : Nat} {p : List Nat} {bx : Box} {e e0 e' v : V}
    (hx : ev f x = .ptr l i k p) (hy : ev f y = v) (hk : v.known = true) (hL : L[i]? = some (some bx)) (hbl : bx.l = l) (he : bx.es[k]? = some e)
    (hp : e.at? l p = some (o, l', e0)) (hq : l.at? p = some (o, l'')) (hlen : v.len? = l'.len) (hs : tySize P t = some l'.len) (hput : e.put? p v = some e') (hd : dstOk n dst = true) :
    StQ P C n ⟨dst, .store t x y, ty, pos, after, none⟩ f L (fun f' L' => f' = updo f dst .any ∧ L' = L.set i (some { bx with es := bx.es.set k e' })) := by
  intro a w β S hr K Qc hK
  have hv := rel_ev hr y
  rw [hy] at hv
  obtain ⟨hvc, hvl⟩ := known_cells hv hk
  have hxv := rel_ev hr x
  rw [hx] at hxv
  obtain ⟨b, Cp, o2, l2, h2, h3, h4⟩ := VR_ptr hxv
  rw [hq] at h3
  injection h3 with h3; injection h3 with h3 h3'
  subst h3; subst h3'; subst hbl
  have hbr := hr.hp.bx i bx hL
  rcases hbr.2 with ⟨q1, _⟩ | ⟨b', C', cur, ds, q1, q2, q3, q4, q5, q6⟩
  · rw [q1] at h2; cases h2
  · obtain ⟨d1, dm, d3, r1, r2, r3, r4, r5⟩ := VCs_get bx.es _ ds k bx.l e q5 (get_rep _ (lt_of_get he)) he
    rw [len_take_rep _ _ _ (Nat.le_of_lt (lt_of_get he))] at r2
    obtain ⟨c1, c2, c3, s1, s2, s3, s4, s5⟩ := VC_at p e bx.l dm o l' e0 r4 r3 hp
    subst s1
    have hnew := s5 v e' (a.eval y).cells.toList hput hvc (by rw [hvl, hlen])
    obtain ⟨w', hrun, hr'⟩ := hr.store (P := P) (e' := e') (d1 := d1) (d3 := d3) (c3 := c3) (new := (a.eval y).cells.toList) hL q1 q2 q3 q4 q5 q6 (by rw [hvl, hlen, s3]) s2 r1 r2
      (r5 e' _ hnew (by simp only [List.length_append] at r3 ⊢; omega)) (fun u hu => VC_scalar v _ hvc u hu)
    rw [q1] at h2
    injection h2 with h2; injection h2 with h2; injection h2 with h2 _
    subst h2
    have hrunop : (execOp a.eval ⟨dst, .store t x y, ty, pos, after, none⟩).run P w = .ok .skip w' := by
      simp only [execOp, h4, Instr.storeAt, Instr.sureAddr, Sem.run_bind, Sem.run_pure, Result.andThen, storeVar_run hs (by rw [hvl, hlen])]
      rw [hrun]
    unfold Oper.wp
    rw [hrunop, Oper.upon_skip]
    exact hK _ _ _ _ _ _ (hr'.puto (dstOk_spec hd) (VR_any ..)) ⟨rfl, rfl⟩

theorem AL_store {ops : Array Oper} {rest : List Oper} {dst : Option Tmp} {ty : TypeId} {pos : String} {after : Array Edge} {t : TypeId} {x y : Operand} {l l' l'' : Lay} {i k o : Nat} {p : List Nat} {bx : Box} {e e0 e' v : V}
    (hx : ev f x = .ptr l i k p) (hy : ev f y = v) (hk : v.known = true) (hL : L[i]? = some (some bx)) (hbl : bx.l = l) (he : bx.es[k]? = some e)
    (hp : e.at? l p = some (o, l', e0)) (hq : l.at? p = some (o, l'')) (hlen : v.len? = l'.len) (hs : tySize P t = some l'.len) (hput : e.put? p v = some e') (hd : dstOk n dst = true)
    (h : AL P C n ops rest Q (updo f dst .any) (L.set i (some { bx with es := bx.es.set k e' }))) : AL P C n ops (⟨dst, .store t x y, ty, pos, after, none⟩ :: rest) Q f L := 
  AL_stepQ rfl (St_store hx hy hk hL hbl he hp hq hlen hs hput hd) (fun f' L' ⟨h1, h2⟩ => by subst h1; subst h2; exact h)
end
end Go.Eng

/- Calls over boxes told by what holds behind them; values known to read as others (a pool). -/
import Derived.Test.YtjhdkjacfclipaaJb
set_option linter.unusedVariables false
set_option linter.unusedSimpArgs false
namespace Go.Eng
/-- What stands as d reads as t, here and later. -/
def Cv (S : Nat → Prop) (w : World) (d t : D) : Prop := ∀ (S' : Nat → Prop) (w' : World), (∀ b, S b → S' b) → (∀ b, S b → w'.heap[b]? = w.heap[b]?) → ∀ cs, DC S' w' d cs → DC S' w' t cs
theorem Cv.later {S S' : Nat → Prop} {w w' : World} {d t : D} (h : Cv S w d t) (h1 : ∀ b, S b → S' b) (h2 : ∀ b, S b → w'.heap[b]? = w.heap[b]?) : Cv S' w' d t := fun S2 w2 k1 k2 cs hcs => h S2 w2 (fun b hb => k1 b (h1 b hb)) (fun b hb => (k2 b (h1 b hb)).trans (h2 b hb)) cs hcs
structure PoolC (C : Cx) (pool : List (D × D)) : Prop where
  fz : ∀ b, C.S0 b → b < C.w0.heap.size ∧ ¬ C.Dm b
  cv : ∀ p ∈ pool, Cv C.S0 C.w0 p.1 p.2
section
variable {P : Program} {C : Cx} {n : Nat} {f : Fr} {L : Hp} {Q : AQ} {ops : Array Oper} {rest : List Oper} {dst : Option Tmp} {ty : TypeId} {pos : String} {after : Array Edge} {a : Act} {w w' : World} {β : Beta} {S S' : Nat → Prop} {i : Nat} {r : List Nat}
theorem PoolC.now {pool : List (D × D)} (h : PoolC C pool) (hr : Rel C n f L a w β S) : ∀ p ∈ pool, Cv S w p.1 p.2 := fun p hp =>
  (h.cv p hp).later hr.s0 fun b hb => hr.pres.block b (h.fz b hb).1 (h.fz b hb).2
/-- Arguments that read as data, or as what the pool tells. -/
inductive RdC (pool : List (D × D)) : V → D → Prop
  | d {x : D} : RdC pool (.d x) x
  | cv {x t : D} : (x, t) ∈ pool → x.isAgg = t.isAgg → RdC pool (.d x) t
theorem RdC_RD {pool : List (D × D)} (hP : PoolC C pool) (hr : Rel C n f L a w β S) : ∀ (xs : List Operand) (ds : List D), All2 (RdC pool) (xs.map (ev f)) ds → All2 (RD S w) ds (xs.map a.eval)
  | [], _, h => by cases h; exact .nil
  | x :: xs, _, h => by
    cases h with
    | cons h1 h2 =>
      refine .cons ?_ (RdC_RD hP hr xs _ h2)
      generalize hv : ev f x = v at h1
      have hx := rel_ev hr x
      rw [hv] at hx
      cases h1 with
      | d => exact RD_of_VR0 (known_VR0 hx rfl)
      | cv hm hag =>
        obtain ⟨k1, k2⟩ := RD_of_VR0 (known_VR0 hx rfl)
        exact ⟨hP.now hr _ hm S w (fun _ h => h) (fun _ _ => rfl) _ k1, by rw [← hag]; exact k2⟩
theorem StE_ccall (hT : CT P C) {pool : List (D × D)} (hP : PoolC C pool) {x : Operand} {args : Array Operand} {ts : Array TypeId} {k : FuncId} {ds : List D} {y : Value} {g : Option (Nat × Bool)} (hrun : ∀ (a : Act) (w : World) (β : Beta) (S : Nat → Prop) (f' : Fr) (L' : Hp), (∀ s ∈ (⟨dst, callV x args ts, ty, pos, after, g⟩ : Oper).looksAt ops, f' s = f s) → Rel C n f' L' a w β S → Region.wanted (⟨dst, callV x args ts, ty, pos, after, g⟩ : Oper) (yielded ops a.tmps) = true)
    (hx : ev f x = .d (.fn k [])) (hc : Callable P k) (hp : PCall P k ds (· = [.c y])) (ha : All2 (RdC pool) (args.toList.map (ev f)) ds) (hd : dstOk n dst = true) : StE P C n ops ⟨dst, callV x args ts, ty, pos, after, g⟩ f (fun C' v => C' = C ∧ v = .d (.c y)) := by
  intro f' hf L' a w β S hr K Qc hK
  have hev := ev_looks hf
  have hx' : ev f' x = .d (.fn k []) := (hev x (by simp [Op.operands, Call.operands])).trans hx
  have ha' : All2 (RdC pool) (args.toList.map (ev f')) ds := by
    rw [maps_congr fun y hy => hev y (by simp [Op.operands, Call.operands]; exact .inr (by simpa using hy))]
    exact ha
  unfold runOr
  rw [if_pos (hrun a w β S f' L' hf hr)]
  exact qcall_wp (ty := ty) (pos := pos) (after := after) hT hr hx' hc hp ((RdC_RD hP hr _ _ ha').mono fun _ _ h => RD_later hr.hp.fz (fun _ _ => rfl) h) hd K Qc fun a' w' β' S' hr' => hK C _ _ _ _ _ ⟨rfl, rfl⟩ hr'
theorem DT_ccall (hT : CT P C) {pool : List (D × D)} (hP : PoolC C pool) {x : Operand} {args : Array Operand} {ts : Array TypeId} {k : FuncId} {ds : List D} {y : Value} (ho : ops[i]? = some ⟨dst, callV x args ts, ty, pos, after, none⟩) (hx : ev f x = .d (.fn k [])) (hc : Callable P k) (hp : PCall P k ds (· = [.c y]))
    (ha : All2 (RdC pool) (args.toList.map (ev f)) ds) (hd : dstOk n dst = true) (hr : (r.all fun j => (lookM (masks ops (i :: r) []) j).testBit i) = true) (h : DT P n ops C Q r (updo f dst (.d (.c y))) L) : DT P n ops C Q (i :: r) f L :=
  .e ho rfl (StE_ccall hT hP (fun _ _ _ _ _ _ _ _ => by simp [Region.wanted]) hx hc hp ha hd) hr (fun C' v ⟨h1, _⟩ hT => h1 ▸ hT) fun C' v ⟨h1, h2⟩ => by subst h1; subst h2; exact h
theorem DT_ccallt (hT : CT P C) {pool : List (D × D)} (hP : PoolC C pool) {x : Operand} {args : Array Operand} {ts : Array TypeId} {k : FuncId} {ds : List D} {y : Value} {j s : Nat} {want : Bool} (ho : ops[i]? = some ⟨dst, callV x args ts, ty, pos, after, some (j, want)⟩) (hj : (ops[j]?).bind (·.dst) = some s) (hs : Nat.blt s n = true) (hv : f s = bl want) (hx : ev f x = .d (.fn k [])) (hc : Callable P k) (hp : PCall P k ds (· = [.c y]))
    (ha : All2 (RdC pool) (args.toList.map (ev f)) ds) (hd : dstOk n dst = true) (hr : (r.all fun j => (lookM (masks ops (i :: r) []) j).testBit i) = true) (h : DT P n ops C Q r (updo f dst (.d (.c y))) L) : DT P n ops C Q (i :: r) f L :=
  .e ho rfl (StE_ccall hT hP (fun a w β S f' L' hf hr => by
    have h1 : f' s = bl want := (hf s (looks_guard rfl hj)).trans hv
    rw [wanted_iff rfl hj hs hr h1]; simp) hx hc hp ha hd) hr (fun C' v ⟨h1, _⟩ hT => h1 ▸ hT) fun C' v ⟨h1, h2⟩ => by subst h1; subst h2; exact h
/-- A call over boxes: behind it one of Lout stands, R tells of it. -/
def HCallE {A : Type} (P : Program) (k : FuncId) (pool : List (D × D)) (args : List V) (Lin : List Box) (stay : Nat) (R : A → Prop) (Lout : A → List Box) : Prop :=
  ∀ (w : World) (S : Nat → Prop) (β : Beta) (xs : List Value), Tab P S w → (∀ p ∈ pool, Cv S w p.1 p.2) → HeapR β S w (someL Lin) → All2 (VR0 β S w) args xs →
    Calls P k xs.toArray w fun en w' => ∃ z q β' S', en = .returned z ∧ R q ∧ HeapR β' S' w' (someL (Lout q)) ∧ (∀ j, j < stay → β' j = β j) ∧
      (∀ b, S b → S' b) ∧ (∀ b, S' b → S b ∨ w.heap.size ≤ b ∨ inBk Lin β b) ∧ Pres (inBk Lin β) w w'
def retEQ {A : Type} (fn : Func) (P : Program) (C0 : Cx) (o : Nat → Option (Nat × Nat)) (stay : Nat) (R : A → Prop) (Lout : A → List Box) : AQ := fun en a w => ends en = true ∧ ∃ q, R q ∧ retHP fn P C0 o stay none [] (Lout q) a w
theorem HCallE_of {A : Type} {R : A → Prop} {pool : List (D × D)} {k : FuncId} {fn : Func} {c : Code} {args : List V} {Lin : List Box} {Lout : A → List Box} {stay : Nat} (hf : P.funcs[k]? = some fn) (hb : fn.body = some c) (hn : fn.ntmps = n) (hlen : args.length ≤ n) (hst : stay ≤ Lin.length)
    (h : ∀ C0 o, CT P C0 → PoolC C0 pool → AC P C0 n c (retEQ fn P C0 o stay R Lout) (frV args) (inL o stay 0 Lin)) : HCallE P k pool args Lin stay R Lout := by
  intro w S β xs hT hpool hh ha
  refine calls_of_wp hf hb ?_
  subst hn
  have hsome : ∀ j, j < Lin.length → ∃ q, β j = some q := fun j hj => by
    have := hh.bx j Lin[j] (someL_mk (List.getElem?_eq_getElem hj))
    rcases this.2 with ⟨h1, _⟩ | ⟨b, Cp, _, _, h1, _⟩
    · exact ⟨_, h1⟩
    · exact ⟨_, h1⟩
  let o : Nat → Option (Nat × Nat) := fun j => match β j with | some q => q | none => none
  have ho : ∀ j, j < Lin.length → β j = some (o j) := fun j hj => by
    obtain ⟨q, hq⟩ := hsome j hj
    simp only [o, hq]
  have hdm : ∀ b, inBk Lin β b ↔ ∃ j, j < Lin.length ∧ ∃ c, o j = some (b, c) := fun b => by
    constructor
    · rintro ⟨j, bx, c, h1, h2⟩
      have hj := lt_of_get h1
      refine ⟨j, hj, c, ?_⟩
      rw [ho j hj] at h2
      injection h2
    · rintro ⟨j, hj, c, h1⟩
      exact ⟨j, Lin[j], c, List.getElem?_eq_getElem hj, by rw [ho j hj, h1]⟩
  have hln : ∀ {vs : List V} {zs : List Value}, All2 (VR0 β S w) vs zs → vs.length = zs.length := by
    intro vs zs h
    induction h with
    | nil => rfl
    | cons _ _ ih => simp [ih]
  have hsz := hln ha
  have hget : ∀ {vs : List V} {zs : List Value}, All2 (VR0 β S w) vs zs → ∀ (i : Nat) (v : V), vs[i]? = some v → ∃ z : Value, zs[i]? = some z ∧ VR0 β S w v z := by
    intro vs zs h
    induction h with
    | nil => intro i d h; simp at h
    | cons h1 _ ih =>
      intro i d hi
      cases i with
      | zero => simp at hi; subst hi; exact ⟨_, rfl, h1⟩
      | succ i => simp at hi; simpa using ih i d hi
  have getL : ∀ (j : Nat) (b0 : Box), Lin[j]? = some b0 → (someL Lin)[j]? = some (some b0) := fun j b0 h => someL_mk h
  have hrel : Rel ⟨w, inBk Lin β, S⟩ fn.ntmps (frV args) (inL o stay 0 Lin) { tmps := xs.toArray ++ Array.replicate (fn.ntmps - xs.toArray.size) undef, defers := [] } w β S := by
    refine ⟨rfl, ?_, fun i => ?_, ⟨?_, ?_, ?_, hh.fz, fun i hi => hh.un i (by simpa [inL_length] using hi), ?_⟩, ?_, fun b hb => .inl hb, fun b hb => hb, Pres.refl _ _⟩
    · simp at hsz ⊢; omega
    · show VR _ _ _ (match args[i]? with | some v => v | none => .any) _
      cases e' : args[i]? with
      | none => exact VR_any ..
      | some v =>
        obtain ⟨z, hz, hv⟩ := hget ha i v e'
        have : (xs.toArray ++ Array.replicate (fn.ntmps - xs.toArray.size) undef).getD i undef = z := by
          have hi := lt_of_get hz
          rw [Array.getD_eq_getD_getElem?, Array.getElem?_append_left (by simpa using hi), List.getElem?_toArray, hz]
          rfl
        simp only
        rw [this]
        exact VR_of_VR0 hv
    · intro i b hi
      obtain ⟨b0, h1, rfl⟩ := inL_get Lin 0 i b hi
      exact hh.bx i b0 (getL i b0 h1)
    · intro i j b bx bx' c c' hi hj hb hb'
      obtain ⟨b0, h1, rfl⟩ := inL_get Lin 0 i bx hi
      obtain ⟨b0', h1', rfl⟩ := inL_get Lin 0 j bx' hj
      exact hh.inj i j b b0 b0' c c' (getL i b0 h1) (getL j b0' h1') hb hb'
    · intro i bx b c hi hbi
      obtain ⟨b0, h1, rfl⟩ := inL_get Lin 0 i bx hi
      exact hh.own i b0 b c (getL i b0 h1) hbi
    · intro i bx q hi hq
      obtain ⟨b0, h1, rfl⟩ := inL_get Lin 0 i bx hi
      simp only [Nat.zero_add] at hq
      cases e : Nat.blt i stay with
      | false => rw [e] at hq; cases hq
      | true =>
        rw [e] at hq
        injection hq with hq
        rw [ho i (lt_of_get h1), hq]
    · intro i bx b c hi hbi
      obtain ⟨b0, h1, rfl⟩ := inL_get Lin 0 i bx hi
      exact .inl ⟨i, b0, c, h1, hbi⟩
  have hown : ∀ b, S b → ¬ inBk Lin β b := fun b hb ⟨j, bx, c, h1, h2⟩ => hh.own j bx b c (getL j bx h1) h2 hb
  have hP : PoolC ⟨w, inBk Lin β, S⟩ pool := ⟨fun b hb => ⟨hh.fz b hb, hown b hb⟩, hpool⟩
  refine wp_mono (h ⟨w, inBk Lin β, S⟩ o (CT.start hT hown) hP _ w _ S hrel) ?_
  rintro en a w' ⟨hend, q, hq, h1, x, h2, ys, β', S', M, h3, h4, h5, h6, h7, h8, h9, h10, h11⟩
  have fin : a.defers = [] ∧ ∃ v, (results fn a.tmps).run P w' = .ok v w' ∧ ∃ z q β' S', Ending.returned v = .returned z ∧ R q ∧ HeapR β' S' w' (someL (Lout q)) ∧ (∀ j, j < stay → β' j = β j) ∧
      (∀ b, S b → S' b) ∧ (∀ b, S' b → S b ∨ w.heap.size ≤ b ∨ inBk Lin β b) ∧ Pres (inBk Lin β) w w' :=
    ⟨h1, x, h2, x, q, β', S', rfl, hq, h5, fun j hj => by rw [h6 j hj, ho j (by omega)], h9, h10, h11⟩
  cases en with
  | normal => exact fin
  | ret => exact fin
  | _ => cases hend
theorem rete_ok {A : Type} {R : A → Prop} {C0 : Cx} {fn : Func} {o : Nat → Option (Nat × Nat)} {stay : Nat} {Lout : A → List Box} (q : A) (hq : R q) (src : List Nat) (hx : CExt C0 C) (hrv : fn.results.toList = []) (hln : src.length = (Lout q).length) (hnd : nodupS (src.map some) = true) (hB : BxF L (srcOf (src.map some)) o stay 0 (Lout q)) (hst : stay ≤ (Lout q).length) : Fin C n (retEQ fn P C0 o stay R Lout .ret) f L := by
  intro a w' β S hr
  refine ⟨rfl, q, hq, ?_⟩
  obtain ⟨ys, hy, hall⟩ := RetV_run (P := P) hr (rs := fn.results.toList) (vs := []) (by rw [hrv]; exact .nil)
  have hrun := results_run (fn := fn) hy
  rw [tupV_eq] at hrun
  obtain ⟨g1, g2, g3, g4, g5, g6⟩ := reth_core hx src hln hnd hB hst hr
  exact ⟨hr.df, _, hrun, ys, _, S, [], rfl, ⟨VxL_VR0 (r := fun _ => none) (fun j i e => by cases e) .nil hall, rfl⟩, g1, g2, g3, by simp, g4, g5, g6⟩
/-- A call over boxes that all stay, told by what holds behind it. -/
theorem AL_hstE {A : Type} {R : A → Prop} {pool : List (D × D)} (hT : CT P C) (hP : PoolC C pool) {x : Operand} {args : Array Operand} {ts : Array TypeId} {k : FuncId} {hargs : List V} {Lin : List Box} {Lout : A → List Box} {m : Nat} (src : List Nat) (bs : A → List Box)
    (hx : ev f x = .d (.fn k [])) (hc : Callable P k) (hp : HCallE P k pool hargs Lin m R Lout) (ha : VxL (srcOf (src.map some)) (args.toList.map (ev f)) hargs) (hln : src.length = Lin.length) (hm : m = Lin.length) (hnd : nodupS (src.map some) = true) (hB : BxI L (srcOf (src.map some)) 0 Lin)
    (hlo : ∀ q, R q → Lin.length = (Lout q).length) (hO : ∀ q, R q → BxP (invS src) L src (Lout q) (bs q)) (hd : dstOk n dst = true)
    (h : ∀ q, R q → AL P C n ops rest Q (updo f dst .any) (putL src (bs q) L)) : AL P C n ops (⟨dst, callV x args ts, ty, pos, after, none⟩ :: rest) Q f L := by
  intro a w β S hr
  refine wpList_plain rfl fun Kc hK => ?_
  have hv := rel_ev hr x
  rw [hx] at hv
  obtain ⟨cv, c1, c2⟩ := VR_fn hv
  have hcv : cv = [] := by
    have := (DCs_len _ _ _ c2).1
    simpa [Lay.lens] using this
  subst hcv
  unfold Oper.wp
  rw [call_run hc c1, Oper.upon_enter]
  have heq : (args.map a.eval ++ ([] : List Value).toArray) = (args.toList.map a.eval).toArray := by
    show args.map a.eval ++ #[] = _
    rw [Array.append_empty, ← Array.toList_map, Array.toArray_toList]
  rw [heq]
  refine (hp w S (viewB (srcOf (src.map some)) β) _ (hT.tab hr) (hP.now hr) (hr.hp.view hB (srcOf_nodup hnd) (srcOf_un hln)) (args_VR0 hr args.toList hargs ha fun j i e => viewB_some e)).mono ?_
  rintro en w' ⟨z, q, β', S', rfl, hq, g2, g3, g6, g7, g8⟩
  have hr' := hr.hstay hB hln hnd (hlo q hq) (hO q hq) g2 (fun j hj => g3 j (by omega)) g6 g7 g8
  exact hK _ _ (h q hq _ _ _ _ (hr'.puto (dstOk_spec hd) (VR_any ..)))
end
end Go.Eng

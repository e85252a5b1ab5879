/- The engine: boxes that are written no more are data; states seen as other states; calls and returns. -/
import Derived.Test.YtleahipnknainaaDoorEng8
import Derived.Lib.ItoaNum
import Derived.Lib.LaidTab
set_option linter.unusedVariables false
set_option linter.unusedSimpArgs false
namespace Go.Eng

mutual
/-- What a value is once the boxes of F are read alone. -/
inductive Reads (L : Hp) (F : Nat → Prop) : V → D → Prop
  | d {x : D} : Reads L F (.d x) x
  | nil {l : Lay} : Reads L F nilsl (.sl l [])
  | agg {fs : List Lay} {vs : List V} {ds : List D} : ReadsL L F vs ds → Reads L F (.agg fs vs) (.agg fs ds)
  | ref {l : Lay} {i m : Nat} {bx : Box} {ds : List D} : F i → L[i]? = some (some bx) → bx.l = l → bx.es.length = m → ReadsL L F bx.es ds → Reads L F (.ref l i 0 m) (.sl l ds)
  | ptr {l : Lay} {i k : Nat} {p : List Nat} {bx : Box} {e : V} {x : D} : F i → L[i]? = some (some bx) → bx.l = l → bx.es[k]? = some e → Reads L F e x → Reads L F (.ptr l i k p) (.rp l x p)
  | fn {k : FuncId} {vs : List V} {ds : List D} : ReadsL L F vs ds → Reads L F (.fn k vs) (.fn k ds)
inductive ReadsL (L : Hp) (F : Nat → Prop) : List V → List D → Prop
  | nil : ReadsL L F [] []
  | cons {v : V} {x : D} {vs : List V} {ds : List D} : Reads L F v x → ReadsL L F vs ds → ReadsL L F (v :: vs) (x :: ds)
end

theorem ReadsL_d {L : Hp} {F : Nat → Prop} : ∀ xs : List D, ReadsL L F (xs.map V.d) xs
  | [] => .nil
  | x :: xs => .cons .d (ReadsL_d xs)
theorem ReadsL_length {L : Hp} {F : Nat → Prop} : ∀ {vs : List V} {ds : List D}, ReadsL L F vs ds → vs.length = ds.length
  | _, _, .nil => rfl
  | _, _, .cons _ h => by simp [ReadsL_length h]
theorem ReadsL_append {L : Hp} {F : Nat → Prop} : ∀ {vs vs' : List V} {ds ds' : List D}, ReadsL L F vs ds → ReadsL L F vs' ds' → ReadsL L F (vs ++ vs') (ds ++ ds')
  | _, _, _, _, .nil, k => k
  | _, _, _, _, .cons h1 h2, k => .cons h1 (ReadsL_append h2 k)

section
variable {β β' : Beta} {S S' : Nat → Prop} {w : World} {L : Hp} {F : Nat → Prop}
mutual
theorem Reads_sound (hp : HeapR β S w L) (su : ∀ b, S b → S' b) (hF : ∀ i bx b c, F i → L[i]? = some (some bx) → β i = some (some (b, c)) → S' b) :
    ∀ {v : V} {x : D}, Reads L F v x → ∀ cs, VC β S w v cs → DC S' w x cs
  | _, _, .d, cs, h => by
    simp only [VC] at h
    exact DC_later su (fun _ _ => rfl) _ cs h
  | _, _, .nil, cs, h => by
    simp only [VC, DC] at h ⊢
    exact ⟨none, 0, 0, h.1, rfl, Nat.le_refl _, Nat.zero_le _, .inl rfl⟩
  | _, _, .agg k, cs, h => by
    simp only [VC, DC] at h ⊢
    exact ReadsL_sound hp su hF k _ cs h
  | _, _, .ref (l := l) (i := i) (bx := bx) hf hL hl hm k, cs, h => by
    simp only [VC, DC] at h ⊢
    obtain ⟨hli, hbr⟩ := hp.bx i bx hL
    have hlen := ReadsL_length k
    subst hl; subst hm
    rcases h with ⟨h1, h2, h3, h4⟩ | ⟨b, Cp, h1, h2, h3⟩
    · refine ⟨none, 0, 0, h2, by omega, Nat.le_refl _, Nat.zero_le _, .inl rfl⟩
    · rcases hbr with ⟨q1, _⟩ | ⟨b', C', cur, dsv, q1, q2, q3, q4, q5, q6⟩
      · rw [q1] at h1; cases h1
      · rw [q1] at h1
        injection h1 with h1; injection h1 with h1; injection h1 with h1 h1'
        subst h1; subst h1'
        have hd := ReadsL_sound hp su hF k _ dsv q5
        refine ⟨_, _, _, h2, hlen, by omega, hli, .inr ⟨b', 0 * bx.l.len, dsv, rfl, hF i bx b' C' hf hL q1, by rw [← hlen]; exact hd, fun j x hx => ?_⟩⟩
        have := q6 j x hx
        simp [World.cell?, q2, this]
  | _, _, .ptr (l := l) (i := i) (k := kk) (bx := bx) hf hL hl he k, cs, h => by
    simp only [VC, DC] at h ⊢
    obtain ⟨b, Cp, o, l', h1, h2, h3⟩ := h
    subst hl
    obtain ⟨ec, e1, e2, e3⟩ := box_elem (hp.bx i bx hL) h1 he
    exact ⟨b, kk * bx.l.len, ec, o, l', h2, h3, hF i bx b Cp hf hL h1, e2, Reads_sound hp su hF k ec e1, e3⟩
  | _, _, .fn (vs := vs) (ds := ds) k, cs, h => by
    simp only [VC, DC] at h ⊢
    obtain ⟨xs, h1, h2⟩ := h
    refine ⟨xs, h1, ?_⟩
    rw [← ReadsL_length k]
    exact ReadsL_sound hp su hF k _ xs h2
theorem ReadsL_sound (hp : HeapR β S w L) (su : ∀ b, S b → S' b) (hF : ∀ i bx b c, F i → L[i]? = some (some bx) → β i = some (some (b, c)) → S' b) :
    ∀ {vs : List V} {ds : List D}, ReadsL L F vs ds → ∀ fs cs, VCs β S w fs vs cs → DCs S' w fs ds cs
  | _, _, .nil, fs, cs, h => by simpa only [VCs, DCs] using h
  | _, _, .cons k1 k2, fs, cs, h => by
    simp only [VCs, DCs] at h ⊢
    obtain ⟨f, fr, c1, c2, h1, h2, h3, h4, h5⟩ := h
    exact ⟨f, fr, c1, c2, h1, h2, h3, Reads_sound hp su hF k1 c1 h4, ReadsL_sound hp su hF k2 fr c2 h5⟩
end
theorem Reads_isAgg {v : V} {x : D} (h : Reads L F v x) : v.isAgg = x.isAgg := by cases h <;> rfl
end

/-- A datum as a value. -/
def RD (S : Nat → Prop) (w : World) (d : D) (x : Value) : Prop := DC S w d x.cells.toList ∧ d.isAgg = isAggV x
theorem RD_of_VR0 {β : Beta} {S : Nat → Prop} {w : World} {d : D} {x : Value} (h : VR0 β S w (.d d) x) : RD S w d x := by
  rcases h with h | ⟨h, e⟩
  · cases h
  · simp only [VC] at h; exact ⟨h, e⟩
theorem VR0_of_RD {β : Beta} {S : Nat → Prop} {w : World} {d : D} {x : Value} (h : RD S w d x) : VR0 β S w (.d d) x := .inr ⟨by simp only [VC]; exact h.1, h.2⟩
theorem RD_later {S S' : Nat → Prop} {w w' : World} (su : ∀ b, S b → S' b) (bl : ∀ b, S b → w'.heap[b]? = w.heap[b]?) {d : D} {x : Value} (h : RD S w d x) : RD S' w' d x := ⟨DC_later su bl _ _ h.1, h.2⟩

def RetR (S : Nat → Prop) (w : World) (rs : List D) (x : Value) : Prop :=
  match rs with
  | [r] => RD S w r x
  | rs => ∃ xs : List Value, x = .tuple xs.toArray ∧ All2 (RD S w) rs xs
def retV : List D → V
  | [r] => .d r
  | rs => .tup (rs.map V.d)

/-- Tables of the library that lie in memory. -/
def Tab (P : Program) (S : Nat → Prop) (w : World) : Prop := ∀ g, P.globalNamed "internal/strconv.uint64pow10" = some g → S g ∧ Lib.TabIs P w "internal/strconv.uint64pow10" .u64 Lib.pow10Tab
theorem Tab.mono {P : Program} {S S' : Nat → Prop} {w : World} (h : Tab P S w) (k : ∀ b, S b → S' b) : Tab P S' w := fun g hg => ⟨k g (h g hg).1, (h g hg).2⟩
theorem TabIs_lt {P : Program} {w : World} {nm : String} {k : IntKind} {zs : List Int} {g : Nat} (hg : P.globalNamed nm = some g) (h : Lib.TabIs P w nm k zs) : g < w.heap.size := by
  unfold Lib.TabIs World.var? at h
  rw [hg, Option.bind_some] at h
  by_cases hlt : g < w.heap.size
  · exact hlt
  · have : w.heap[g]? = none := by simp; omega
    rw [this] at h
    cases h
theorem TabIs_same {P : Program} {w w' : World} {nm : String} {k : IntKind} {zs : List Int} {g : Nat} (hg : P.globalNamed nm = some g) (h : Lib.TabIs P w nm k zs) (e : w'.heap[g]? = w.heap[g]?) : Lib.TabIs P w' nm k zs := by
  unfold Lib.TabIs World.var? at h ⊢
  rw [hg, Option.bind_some] at h ⊢
  rw [e]
  exact h

/-- A function that only computes and reads no table. -/
def PCall0 (P : Program) (k : FuncId) (ds : List D) (post : List D → Prop) : Prop :=
  ∀ (w : World) (S : Nat → Prop) (xs : List Value), (∀ b, S b → b < w.heap.size) → All2 (RD S w) ds xs →
    Calls P k xs.toArray w fun e w' => ∃ x rs S', e = .returned x ∧ post rs ∧ RetR S' w' rs x ∧ (∀ b, S b → S' b) ∧ (∀ b, S' b → b < w'.heap.size ∧ (S b ∨ w.heap.size ≤ b)) ∧ Pres (fun _ => False) w w'
/-- A function that only computes: data in, data out; what was there stays. -/
def PCall (P : Program) (k : FuncId) (ds : List D) (post : List D → Prop) : Prop :=
  ∀ (w : World) (S : Nat → Prop) (xs : List Value), (∀ b, S b → b < w.heap.size) → Tab P S w → All2 (RD S w) ds xs →
    Calls P k xs.toArray w fun e w' => ∃ x rs S', e = .returned x ∧ post rs ∧ RetR S' w' rs x ∧ (∀ b, S b → S' b) ∧ (∀ b, S' b → b < w'.heap.size ∧ (S b ∨ w.heap.size ≤ b)) ∧ Pres (fun _ => False) w w'

theorem PCall.mono {P : Program} {k : FuncId} {ds : List D} {post post' : List D → Prop} (h : PCall P k ds post) (hp : ∀ rs, post rs → post' rs) : PCall P k ds post' := fun w S xs hS hT hd =>
  (h w S xs hS hT hd).mono fun e w' ⟨x, rs, S', h1, h2, h3⟩ => ⟨x, rs, S', h1, hp _ h2, h3⟩

theorem PCall0.to {P : Program} {k : FuncId} {ds : List D} {post : List D → Prop} (h : PCall0 P k ds post) : PCall P k ds post := fun w S xs hS _ hd => h w S xs hS hd

def Callable (P : Program) (k : FuncId) : Prop := ∀ args w, (callFunc k args).run P w = .ok (.enter k args) w
theorem Callable_of {P : Program} {k : FuncId} {fn : Func} (hf : P.funcs[k]? = some fn) (hb : fn.body.isNone = false) (hn : (fn.name == "runtime.NumGoroutine") = false) : Callable P k := by
  intro args w
  have hp : (program).run P w = .ok P w := rfl
  simp only [callFunc, Sem.run_bind, hp, Result.andThen, hf, hb, hn, Bool.false_eq_true, if_false, Sem.run_pure]

/-- A frame by its slots. -/
def frOf : List (Nat × V) → Fr
  | [] => fun _ => .any
  | (i, v) :: r => upd (frOf r) i v
def fr0 (ds : List D) : Fr := fun i => match ds[i]? with | some d => .d d | none => .any

section
variable {P : Program} {C : Cx} {n : Nat} {f : Fr} {L : Hp} {Q : AQ}

/-- What the results are. -/
inductive RetV (P : Program) (f : Fr) (L : Hp) : List ResultVar → List V → Prop
  | nil : RetV P f L [] []
  | tmp {t : Tmp} {v : V} {rs : List ResultVar} {vs : List V} : f t = v → v.known = true → RetV P f L rs vs → RetV P f L (.tmp t :: rs) (v :: vs)
  | cell {t : Tmp} {ty : TypeId} {l l' l'' : Lay} {i k o : Nat} {p : List Nat} {bx : Box} {e y : V} {ag : Bool} {rs : List ResultVar} {vs : List V} : f t = .ptr l i k p → L[i]? = some (some bx) → bx.l = l → bx.es[k]? = some e → e.at? l p = some (o, l', y) → l.at? p = some (o, l'') →
      tySize P ty = some l'.len → tyAgg P ty = some ag → y.isAgg = ag → (ag = false → l'.len = 1) → RetV P f L rs vs → RetV P f L (.cell t ty :: rs) (y :: vs)

def ends : Exit → Bool
  | .normal | .ret => true
  | _ => false
/-- Where a body may end. -/
def retP (fn : Func) (P : Program) (w0 : World) (S0 : Nat → Prop) (post : List D → Prop) (a : Act) (w' : World) : Prop :=
  a.defers = [] ∧ ∃ v, (results fn a.tmps).run P w' = .ok v w' ∧ (∃ x rs S', Ending.returned v = .returned x ∧ post rs ∧ RetR S' w' rs x ∧ (∀ b, S0 b → S' b) ∧ (∀ b, S' b → b < w'.heap.size ∧ (S0 b ∨ w0.heap.size ≤ b)) ∧ Pres (fun _ => False) w0 w')
def retQ (fn : Func) (P : Program) (w0 : World) (S0 : Nat → Prop) (post : List D → Prop) : AQ := fun e a w => ends e = true ∧ retP fn P w0 S0 post a w

theorem known_VR0 {β : Beta} {S : Nat → Prop} {w : World} {v : V} {x : Value} (h : VR β S w v x) (hk : v.known = true) : VR0 β S w v x := by
  cases v with
  | any => cases hk
  | tup _ => cases hk
  | _ => exact h

def oneRes (tmps : Array Value) : ResultVar → Sem Value
  | .tmp t => pure (tmps.getD t undef)
  | .cell b t => do loadVar t (← asAddr (tmps.getD b undef))
theorem results_eq (fn : Func) (tmps : Array Value) : results fn tmps = (do let vs ← fn.results.mapM (oneRes tmps); pure (if h : vs.size = 1 then vs[0] else .tuple vs)) := by
  unfold results
  congr 1

theorem RetV_run {a : Act} {w : World} {β : Beta} {S : Nat → Prop} (hr : Rel C n f L a w β S) : ∀ {rs : List ResultVar} {vs : List V}, RetV P f L rs vs →
    ∃ xs, (rs.mapM (oneRes a.tmps)).run P w = .ok xs w ∧ All2 (VR0 β S w) vs xs
  | _, _, .nil => ⟨[], rfl, .nil⟩
  | _, _, .tmp (t := t) h1 hk k => by
    obtain ⟨xs, e, h⟩ := RetV_run hr k
    have hv := hr.fr t
    rw [h1] at hv
    refine ⟨a.tmps.getD t undef :: xs, ?_, .cons (known_VR0 hv hk) h⟩
    simp only [List.mapM_cons, oneRes, Sem.run_bind, Sem.run_pure, Result.andThen]
    rw [e]
  | _, _, .cell (t := t) (ty := ty) (l := l) (l' := l') (i := i) (k := kk) (p := p) (bx := bx) (e := e) (y := y) (o := o) h1 hL hbl he hp hq hs ha hag h11 k => by
    subst hag
    obtain ⟨xs, e', h⟩ := RetV_run hr k
    have hv := hr.fr t
    rw [h1] at hv
    obtain ⟨b, Cp, o2, l2, h2, h3, h4⟩ := VR_ptr hv
    rw [hq] at h3
    injection h3 with h3; injection h3 with h3 h3'
    subst h3; subst h3'; subst hbl
    obtain ⟨cs, k1, k2, k3⟩ := box_elem (hr.hp.bx i bx hL) h2 he
    obtain ⟨c1, c2, c3, rfl, q1, q2, q3, _⟩ := VC_at p e bx.l cs o l' y k1 k2 hp
    have hc := cellsAt_mid k3
    rw [q1] at hc
    have hrun := run_loadVar' (P := P) (t := ty) ha (by rw [q2]; exact hs) (fun h => by rw [q2]; exact h11 h) hc
    refine ⟨(if y.isAgg then .agg c2.toArray else c2.headD undef) :: xs, ?_, .cons (VR0_of_cells q3 fun h => by rw [q2]; exact h11 h) h⟩
    simp only [List.mapM_cons, oneRes, h4, asAddr, Sem.run_bind, Sem.run_pure, Result.andThen, hrun]
    rw [e']

theorem results_run {fn : Func} {tmps : Array Value} {w : World} {xs : List Value} (h : (fn.results.toList.mapM (oneRes tmps)).run P w = .ok xs w) :
    (results fn tmps).run P w = .ok (if h : xs.toArray.size = 1 then xs.toArray[0] else .tuple xs.toArray) w := by
  rw [results_eq, Array.mapM_eq_mapM_toList, map_eq_pure_bind]
  simp only [Sem.run_bind, h, Result.andThen, Sem.run_pure]

/-- A later context of the same function. -/
structure CExt (C C' : Cx) : Prop where
  pres : Pres C.Dm C.w0 C'.w0
  dm : ∀ b, C'.Dm b → C.Dm b ∨ C.w0.heap.size ≤ b
  s0 : ∀ b, C.S0 b → C'.S0 b
  fz : ∀ b, C'.S0 b → C.S0 b ∨ C.w0.heap.size ≤ b ∨ C.Dm b
theorem CExt.refl (C : Cx) : CExt C C := ⟨Pres.refl _ _, fun _ h => .inl h, fun _ h => h, fun _ h => .inl h⟩
theorem Rel.back {C C' : Cx} (h : CExt C C') {a : Act} {w : World} {β : Beta} {S : Nat → Prop} (hr : Rel C' n f L a w β S) : Rel C n f L a w β S := by
  have hs := h.pres.size
  refine ⟨hr.df, hr.sz, hr.fr, hr.hp, ?_, ?_, fun b hb => hr.s0 b (h.s0 b hb), ?_⟩
  · intro i bx b c hL hb
    rcases hr.own i bx b c hL hb with h1 | h1
    · exact h.dm b h1
    · exact .inr (by omega)
  · intro b hb
    rcases hr.fz b hb with h1 | h1 | h1
    · exact h.fz b h1
    · exact .inr (.inl (by omega))
    · rcases h.dm b h1 with h2 | h2
      · exact .inr (.inr h2)
      · exact .inr (.inl h2)
  · refine ⟨hr.pres.os.trans h.pres.os, hr.pres.tape.trans h.pres.tape, hr.pres.output.trans h.pres.output, Nat.le_trans hs hr.pres.size, fun b hb hd => ?_⟩
    rw [hr.pres.block b (by omega) (fun h1 => by
      rcases h.dm b h1 with h2 | h2
      · exact hd h2
      · omega)]
    exact h.pres.block b hb hd
theorem CExt.trans {C C' C'' : Cx} (h : CExt C C') (k : CExt C' C'') : CExt C C'' := by
  have hs := h.pres.size
  refine ⟨⟨k.pres.os.trans h.pres.os, k.pres.tape.trans h.pres.tape, k.pres.output.trans h.pres.output, Nat.le_trans hs k.pres.size, fun b hb hd => ?_⟩, ?_, fun b hb => k.s0 b (h.s0 b hb), ?_⟩
  · rw [k.pres.block b (by omega) (fun h1 => by
      rcases h.dm b h1 with h2 | h2
      · exact hd h2
      · omega)]
    exact h.pres.block b hb hd
  · intro b hb
    rcases k.dm b hb with h1 | h1
    · exact h.dm b h1
    · exact .inr (by omega)
  · intro b hb
    rcases k.fz b hb with h1 | h1 | h1
    · exact h.fz b h1
    · exact .inr (.inl (by omega))
    · rcases h.dm b h1 with h2 | h2
      · exact .inr (.inr h2)
      · exact .inr (.inl h2)

/-- A context under which the tables stand. -/
def CT (P : Program) (C : Cx) : Prop := ∀ g, P.globalNamed "internal/strconv.uint64pow10" = some g → C.S0 g ∧ ¬ C.Dm g ∧ Lib.TabIs P C.w0 "internal/strconv.uint64pow10" .u64 Lib.pow10Tab
theorem CT.tab {a : Act} {w : World} {β : Beta} {S : Nat → Prop} (h : CT P C) (hr : Rel C n f L a w β S) : Tab P S w := fun g hg => by
  obtain ⟨h1, h2, h3⟩ := h g hg
  exact ⟨hr.s0 g h1, TabIs_same hg h3 (hr.pres.block g (TabIs_lt hg h3) h2)⟩
theorem CT.ext {C C' : Cx} (h : CT P C) (k : CExt C C') : CT P C' := fun g hg => by
  obtain ⟨h1, h2, h3⟩ := h g hg
  have hl := TabIs_lt hg h3
  refine ⟨k.s0 g h1, fun hd => ?_, TabIs_same hg h3 (k.pres.block g hl h2)⟩
  rcases k.dm g hd with h4 | h4
  · exact h2 h4
  · omega
theorem CT.start {w : World} {S Dm : Nat → Prop} (h : Tab P S w) (hd : ∀ b, S b → ¬ Dm b) : CT P ⟨w, Dm, S⟩ := fun g hg => ⟨(h g hg).1, hd g (h g hg).1, (h g hg).2⟩

theorem ret_fin {C0 : Cx} {fn : Func} {post : List D → Prop} {vs : List V} {rs : List D} (hx : CExt C0 C) (hdm : ∀ b, ¬ C0.Dm b) (hrv : RetV P f L fn.results.toList vs) (hrd : ReadsL L (fun _ => True) vs rs) (hpost : post rs) : Fin C n (retP fn P C0.w0 C0.S0 post) f L := by
  intro a w' β' S' hr
  have hr := hr.back hx
  obtain ⟨ys, hy, hall⟩ := RetV_run hr hrv
  have hrun := results_run (fn := fn) hy
  let S2 : Nat → Prop := fun b => S' b ∨ ∃ i bx c, L[i]? = some (some bx) ∧ β' i = some (some (b, c))
  have hsound : ∀ (vs : List V) (rs : List D) (ys : List Value), ReadsL L (fun _ => True) vs rs → All2 (VR0 β' S' w') vs ys → (∀ v ∈ vs, v ≠ .any) → All2 (RD S2 w') rs ys := by
    intro vs rs ys h1 h2
    induction h2 generalizing rs with
    | nil => intro _; cases h1; exact .nil
    | cons h3 _ ih =>
      intro hne
      cases h1 with
      | cons k1 k2 =>
        refine .cons ?_ (ih _ k2 fun v hv => hne v (by simp [hv]))
        rcases h3 with h3 | ⟨h3, h4⟩
        · exact absurd h3 (hne _ (by simp))
        · exact ⟨Reads_sound hr.hp (fun b h => .inl h) (fun i bx b c _ hL hb => .inr ⟨i, bx, c, hL, hb⟩) k1 _ h3, by rw [← Reads_isAgg k1]; exact h4⟩
  have hne : ∀ {vs : List V} {rs : List D}, ReadsL L (fun _ => True) vs rs → ∀ v ∈ vs, v ≠ .any := by
    intro vs rs h
    induction vs generalizing rs with
    | nil => simp
    | cons v vs ih =>
      cases h with
      | cons k1 k2 =>
        intro u hu
        rcases List.mem_cons.1 hu with rfl | hu
        · rintro rfl; cases k1
        · exact ih k2 u hu
  have hrd' := hsound vs rs ys hrd hall (hne hrd)
  have hret : RetR S2 w' rs (if h : ys.toArray.size = 1 then ys.toArray[0] else .tuple ys.toArray) := by
    cases hrd' with
    | nil => exact ⟨[], by simp, .nil⟩
    | cons k1 k2 =>
      cases k2 with
      | nil => simpa [RetR] using k1
      | cons k3 k4 => exact ⟨_, by simp, .cons k1 (.cons k3 k4)⟩
  refine ⟨hr.df, _, hrun, _, rs, S2, rfl, hpost, hret, fun b hb => .inl (hr.s0 b hb), ?_, ⟨hr.pres.os, hr.pres.tape, hr.pres.output, hr.pres.size, fun b hb _ => hr.pres.block b hb (hdm b)⟩⟩
  rintro b (hb | ⟨i, bx, c, hL, hb⟩)
  · exact ⟨hr.hp.fz b hb, (hr.fz b hb).imp id fun h => h.elim id fun h => (hdm b h).elim⟩
  · refine ⟨(hr.hp.bx i bx hL).lt hb, ?_⟩
    rcases hr.own i bx b c hL hb with h1 | h1
    · exact (hdm b h1).elim
    · exact .inr h1
theorem PCall0_of {k : FuncId} {fn : Func} {c : Code} {ds : List D} {post : List D → Prop} (hf : P.funcs[k]? = some fn) (hb : fn.body = some c) (hn : fn.ntmps = n) (hlen : ds.length ≤ n) (h : ∀ C, (∀ b, ¬ C.Dm b) → AC P C n c (retQ fn P C.w0 C.S0 post) (fr0 ds) []) : PCall0 P k ds post := by
  intro w S xs hS hd
  have hxl : xs.length = ds.length := by
    clear h
    induction hd with
    | nil => rfl
    | cons _ _ ih => simp [ih (by simp at hlen; omega)]
  refine calls_of_wp hf hb ?_
  let C : Cx := ⟨w, fun _ => False, S⟩
  have hget : ∀ (ds : List D) (xs : List Value), All2 (RD S w) ds xs → ∀ (i : Nat) (d : D), ds[i]? = some d → ∃ x : Value, xs[i]? = some x ∧ RD S w d x := by
    intro ds xs h
    induction h with
    | nil => intro i d h; simp at h
    | cons h1 _ ih =>
      intro i d hi
      cases i with
      | zero => simp at hi; subst hi; exact ⟨_, rfl, h1⟩
      | succ i => simp at hi; simpa using ih i d hi
  have hrel : Rel C n (fr0 ds) [] { tmps := xs.toArray ++ Array.replicate (fn.ntmps - xs.toArray.size) undef, defers := [] } w (fun _ => none) S := by
    refine ⟨rfl, ?_, fun i => ?_, ⟨?_, ?_, ?_, hS, fun _ _ => rfl⟩, ?_, fun b hb => .inl hb, fun b hb => hb, Pres.refl _ _⟩
    · simp; omega
    · show VR _ _ _ (match ds[i]? with | some d => V.d d | none => .any) _
      cases e : ds[i]? with
      | none => exact VR_any ..
      | some d =>
        obtain ⟨x, hx, hrd⟩ := hget ds xs hd i d e
        have : (xs.toArray ++ Array.replicate (fn.ntmps - xs.toArray.size) undef).getD i undef = x := by
          have hi := lt_of_get hx
          rw [Array.getD_eq_getD_getElem?, Array.getElem?_append_left (by simpa using hi), List.getElem?_toArray, hx]
          rfl
        simp only
        rw [this]
        exact VR0_of_RD hrd
    · intro i b h; simp at h
    · intro i j b bx bx' c c' h; simp at h
    · intro i bx b c h; simp at h
    · intro i bx b c h; simp at h
  refine wp_mono (h C (fun _ h => h) _ w _ S hrel) ?_
  rintro e a w' ⟨hend, fin⟩
  cases e with
  | normal => exact fin
  | ret => exact fin
  | _ => cases hend
theorem PCall_of {k : FuncId} {fn : Func} {c : Code} {ds : List D} {post : List D → Prop} (hf : P.funcs[k]? = some fn) (hb : fn.body = some c) (hn : fn.ntmps = n) (hlen : ds.length ≤ n) (h : ∀ C, (∀ b, ¬ C.Dm b) → CT P C → AC P C n c (retQ fn P C.w0 C.S0 post) (fr0 ds) []) : PCall P k ds post := by
  intro w S xs hS hT hd
  have hxl : xs.length = ds.length := by
    clear h
    induction hd with
    | nil => rfl
    | cons _ _ ih => simp [ih (by simp at hlen; omega)]
  refine calls_of_wp hf hb ?_
  let C : Cx := ⟨w, fun _ => False, S⟩
  have hget : ∀ (ds : List D) (xs : List Value), All2 (RD S w) ds xs → ∀ (i : Nat) (d : D), ds[i]? = some d → ∃ x : Value, xs[i]? = some x ∧ RD S w d x := by
    intro ds xs h
    induction h with
    | nil => intro i d h; simp at h
    | cons h1 _ ih =>
      intro i d hi
      cases i with
      | zero => simp at hi; subst hi; exact ⟨_, rfl, h1⟩
      | succ i => simp at hi; simpa using ih i d hi
  have hrel : Rel C n (fr0 ds) [] { tmps := xs.toArray ++ Array.replicate (fn.ntmps - xs.toArray.size) undef, defers := [] } w (fun _ => none) S := by
    refine ⟨rfl, ?_, fun i => ?_, ⟨?_, ?_, ?_, hS, fun _ _ => rfl⟩, ?_, fun b hb => .inl hb, fun b hb => hb, Pres.refl _ _⟩
    · simp; omega
    · show VR _ _ _ (match ds[i]? with | some d => V.d d | none => .any) _
      cases e : ds[i]? with
      | none => exact VR_any ..
      | some d =>
        obtain ⟨x, hx, hrd⟩ := hget ds xs hd i d e
        have : (xs.toArray ++ Array.replicate (fn.ntmps - xs.toArray.size) undef).getD i undef = x := by
          have hi := lt_of_get hx
          rw [Array.getD_eq_getD_getElem?, Array.getElem?_append_left (by simpa using hi), List.getElem?_toArray, hx]
          rfl
        simp only
        rw [this]
        exact VR0_of_RD hrd
    · intro i b h; simp at h
    · intro i j b bx bx' c c' h; simp at h
    · intro i bx b c h; simp at h
    · intro i bx b c h; simp at h
  refine wp_mono (h C (fun _ h => h) (CT.start hT fun _ _ h => h) _ w _ S hrel) ?_
  rintro e a w' ⟨hend, fin⟩
  cases e with
  | normal => exact fin
  | ret => exact fin
  | _ => cases hend
end
end Go.Eng

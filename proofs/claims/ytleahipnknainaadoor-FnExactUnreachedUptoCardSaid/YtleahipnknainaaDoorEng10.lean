/- The engine: calls of functions that only compute; function values; freezing; nil as an empty box. -/
import Derived.Test.YtleahipnknainaaDoorEng9
set_option linter.unusedVariables false
set_option linter.unusedSimpArgs false
namespace Go.Eng

section
variable {P : Program} {C : Cx} {n : Nat} {f : Fr} {L : Hp} {Q : AQ} {ops : Array Oper} {rest : List Oper} {dst : Option Tmp} {ty : TypeId} {pos : String} {after : Array Edge}

abbrev callV (x : Operand) (args : Array Operand) (ts : Array TypeId) : Op := .call { callee := .value x, args := args, argTypes := ts }

theorem VR_fn {β : Beta} {S : Nat → Prop} {w : World} {k : FuncId} {caps : List D} {v : Value} (h : VR β S w (.d (.fn k caps)) v) : ∃ xs, v = .func (.func k) #[] xs.toArray ∧ DCs S w (List.replicate caps.length .one) caps xs := by
  have := one_cell h (by simp) rfl
  simp only [VC, DC] at this
  simpa using this

theorem caps_RD {S : Nat → Prop} {w : World} : ∀ (caps : List D) (xs : List Value), caps.all (fun d => !d.isAgg) = true → DCs S w (List.replicate caps.length .one) caps xs → All2 (RD S w) caps xs
  | [], xs, _, h => by
    simp only [DCs] at h
    obtain ⟨_, rfl⟩ := h
    exact .nil
  | d :: caps, xs, hc, h => by
    simp only [List.length_cons, List.replicate_succ, DCs] at h
    obtain ⟨f, fr, c1, c2, e, rfl, h3, h4, h5⟩ := h
    injection e with e1 e2
    subst e1; subst e2
    simp only [List.all_cons, Bool.and_eq_true] at hc
    have hl : c1.length = 1 := h3
    match c1, hl with
    | [x], _ =>
      have hs := DC_scalar d _ h4 x (by simp)
      refine .cons ⟨?_, ?_⟩ (caps_RD caps c2 hc.2 h5)
      · rw [cells_scalar hs]; exact h4
      · rw [isAgg_scalar hs]; simpa using hc.1

theorem All2.append {A B : Type} {R : A → B → Prop} {l l' : List A} {r r' : List B} (h : All2 R l r) (k : All2 R l' r') : All2 R (l ++ l') (r ++ r') := by
  induction h with
  | nil => exact k
  | cons h1 _ ih => exact .cons h1 ih

theorem args_RD {a : Act} {w : World} {β : Beta} {S : Nat → Prop} (hr : Rel C n f L a w β S) : ∀ (args : List Operand) (ds : List D), args.map (ev f) = ds.map V.d → All2 (RD S w) ds (args.map a.eval)
  | [], ds, h => by
    cases ds with
    | nil => exact .nil
    | cons d ds => simp at h
  | x :: args, ds, h => by
    cases ds with
    | nil => simp at h
    | cons d ds =>
      simp only [List.map_cons, List.cons.injEq] at h
      have := rel_ev hr x
      rw [h.1] at this
      exact .cons (RD_of_VR0 this) (args_RD hr args ds h.2)

theorem VR_retV {β : Beta} {S : Nat → Prop} {w : World} {rs : List D} {x : Value} (h : RetR S w rs x) : VR β S w (retV rs) x := by
  have tupc : (∃ xs : List Value, x = .tuple xs.toArray ∧ All2 (RD S w) rs xs) → VR β S w (.tup (rs.map V.d)) x := by
    rintro ⟨xs, e, h⟩
    have key : ∀ (rs : List D) (xs : List Value), All2 (RD S w) rs xs → All2 (VR0 β S w) (rs.map V.d) xs := by
      intro rs xs h
      induction h with
      | nil => exact .nil
      | cons h1 _ ih => exact .cons (VR0_of_RD h1) ih
    exact ⟨xs, e, key rs xs h⟩
  match rs, h with
  | [], h => exact tupc h
  | [r], h => exact VR0_of_RD h
  | r1 :: r2 :: rs, h => exact tupc h

/-- The state behind a call that turned nothing that was there. -/
theorem Rel.called {a : Act} {w w' : World} {β : Beta} {S S' : Nat → Prop} (h : Rel C n f L a w β S) (hp : Pres (fun _ => False) w w') (su : ∀ b, S b → S' b) (hb : ∀ b, S' b → b < w'.heap.size ∧ (S b ∨ w.heap.size ≤ b)) : Rel C n f L a w' β S' := by
  have old : ∀ b, b < w.heap.size → w'.heap[b]? = w.heap[b]? := fun b hb => hp.block b hb (fun h => h)
  have lat : Later β S w β S' w' := ⟨fun _ _ h => h, su, fun b hb => old b (h.hp.fz b hb)⟩
  refine h.later lat ⟨fun i b hi => BoxR_later lat (fun b' c hb => old b' ((h.hp.bx i b hi).lt hb)) (h.hp.bx i b hi), h.hp.inj, ?_, fun b hS => (hb b hS).1, h.hp.un⟩ h.own ?_ ?_
  · intro i bx b c hi hbi hs
    rcases (hb b hs).2 with h1 | h1
    · exact h.hp.own i bx b c hi hbi h1
    · have := (h.hp.bx i bx hi).lt hbi
      omega
  · intro b hs
    rcases (hb b hs).2 with h1 | h1
    · exact h.fz b h1
    · have := h.pres.size
      exact .inr (.inl (by omega))
  · exact ⟨hp.os.trans h.pres.os, hp.tape.trans h.pres.tape, hp.output.trans h.pres.output, by have := h.pres.size; have := hp.size; omega, fun b hb hd => (old b (by have := h.pres.size; omega)).trans (h.pres.block b hb hd)⟩

theorem call_run {a : Act} {w : World} {x : Operand} {args : Array Operand} {ts : Array TypeId} {k : FuncId} {xs : List Value} (hc : Callable P k) (hx : a.eval x = .func (.func k) #[] xs.toArray) :
    (execOp a.eval ⟨dst, callV x args ts, ty, pos, after, none⟩).run P w = .ok (.enter k (args.map a.eval ++ xs.toArray)) w := by
  simp only [execOp, resolve, Sem.run_bind, hx, Deferred.ofValue, Sem.run_pure, Result.andThen, invoke, Array.empty_append]
  exact hc _ w

theorem AL_pcall (hT : CT P C) {x : Operand} {args : Array Operand} {ts : Array TypeId} {k : FuncId} {ds caps : List D} {post : List D → Prop} (hx : ev f x = .d (.fn k caps)) (hcaps : caps.all (fun d => !d.isAgg) = true) (hc : Callable P k)
    (hp : PCall P k (ds ++ caps) post) (ha : args.toList.map (ev f) = ds.map V.d) (hd : dstOk n dst = true) (h : ∀ rs, post rs → AL P C n ops rest Q (updo f dst (retV rs)) L) : AL P C n ops (⟨dst, callV x args ts, ty, pos, after, none⟩ :: rest) Q f L := by
  refine AL_stepQ (Z := fun f' L' => ∃ rs, post rs ∧ f' = updo f dst (retV rs) ∧ L' = L) rfl ?_ (fun f' L' ⟨rs, h1, h2, h3⟩ => by subst h2; subst h3; exact h rs h1)
  intro a w β S hr K Qc hK
  have hv := rel_ev hr x
  rw [hx] at hv
  obtain ⟨xs, h1, h2⟩ := VR_fn hv
  unfold Oper.wp
  rw [call_run hc h1, Oper.upon_enter]
  have hall := (args_RD hr args.toList ds ha).append (caps_RD caps xs hcaps h2)
  have heq : (args.map a.eval ++ xs.toArray) = (args.toList.map a.eval ++ xs).toArray := by simp
  rw [heq]
  refine (hp w S _ hr.hp.fz (hT.tab hr) hall).mono ?_
  rintro e w' ⟨y, rs, S', rfl, q1, q2, q3, q4, q5⟩
  exact hK _ _ _ _ _ _ ((hr.called q5 q3 q4).puto (dstOk_spec hd) (VR_retV q2)) ⟨rs, q1, rfl, rfl⟩

theorem AL_pcallz {x : Operand} {args : Array Operand} {ts : Array TypeId} {k : FuncId} {ds caps : List D} {post : List D → Prop} (hx : ev f x = .d (.fn k caps)) (hcaps : caps.all (fun d => !d.isAgg) = true) (hc : Callable P k)
    (hp : PCall0 P k (ds ++ caps) post) (ha : args.toList.map (ev f) = ds.map V.d) (hd : dstOk n dst = true) (h : ∀ rs, post rs → AL P C n ops rest Q (updo f dst (retV rs)) L) : AL P C n ops (⟨dst, callV x args ts, ty, pos, after, none⟩ :: rest) Q f L := by
  refine AL_stepQ (Z := fun f' L' => ∃ rs, post rs ∧ f' = updo f dst (retV rs) ∧ L' = L) rfl ?_ (fun f' L' ⟨rs, h1, h2, h3⟩ => by subst h2; subst h3; exact h rs h1)
  intro a w β S hr K Qc hK
  have hv := rel_ev hr x
  rw [hx] at hv
  obtain ⟨xs, h1, h2⟩ := VR_fn hv
  unfold Oper.wp
  rw [call_run hc h1, Oper.upon_enter]
  have hall := (args_RD hr args.toList ds ha).append (caps_RD caps xs hcaps h2)
  have heq : (args.map a.eval ++ xs.toArray) = (args.toList.map a.eval ++ xs).toArray := by simp
  rw [heq]
  refine (hp w S _ hr.hp.fz hall).mono ?_
  rintro e w' ⟨y, rs, S', rfl, q1, q2, q3, q4, q5⟩
  exact hK _ _ _ _ _ _ ((hr.called q5 q3 q4).puto (dstOk_spec hd) (VR_retV q2)) ⟨rs, q1, rfl, rfl⟩

theorem AL_fcallz {x : Operand} {args : Array Operand} {ts : Array TypeId} {k : FuncId} {ds rs : List D} (hx : ev f x = .d (.fn k [])) (hc : Callable P k)
    (hp : PCall0 P k ds (· = rs)) (ha : args.toList.map (ev f) = ds.map V.d) (hd : dstOk n dst = true) (h : AL P C n ops rest Q (updo f dst (retV rs)) L) : AL P C n ops (⟨dst, callV x args ts, ty, pos, after, none⟩ :: rest) Q f L :=
  AL_pcallz (caps := []) hx rfl hc (by rw [List.append_nil]; exact hp) ha hd fun rs' e => by subst e; exact h

/-- The same where the result is known. -/
theorem AL_fcall (hT : CT P C) {x : Operand} {args : Array Operand} {ts : Array TypeId} {k : FuncId} {ds caps rs : List D} (hx : ev f x = .d (.fn k caps)) (hcaps : caps.all (fun d => !d.isAgg) = true) (hc : Callable P k)
    (hp : PCall P k (ds ++ caps) (· = rs)) (ha : args.toList.map (ev f) = ds.map V.d) (hd : dstOk n dst = true) (h : AL P C n ops rest Q (updo f dst (retV rs)) L) : AL P C n ops (⟨dst, callV x args ts, ty, pos, after, none⟩ :: rest) Q f L :=
  AL_pcall hT hx hcaps hc hp ha hd fun rs' e => by subst e; exact h

theorem Ev_func {k : FuncId} {caps : Array Operand} {ds : List D} (ha : caps.toList.map (ev f) = ds.map V.d) (hcaps : ds.all (fun d => !d.isAgg) = true) : Ev P C n ⟨dst, .makeFunc (.func k) #[] caps, ty, pos, after, none⟩ f L (.d (.fn k ds)) := by
  intro a w β S hr
  have hall := args_RD hr caps.toList ds ha
  refine ⟨.func (.func k) #[] (caps.toList.map a.eval).toArray, by
    have : caps.map a.eval = (caps.toList.map a.eval).toArray := by rw [← Array.toList_map]
    simp only [execOp, Instr.makeFunc, Sem.run_bind, Sem.run_pure, Result.andThen, ← this]
    simp, .inr ⟨?_, rfl⟩⟩
  simp only [VC, DC]
  refine ⟨caps.toList.map a.eval, rfl, ?_⟩
  have key : ∀ (ds : List D) (xs : List Value), ds.all (fun d => !d.isAgg) = true → All2 (RD S w) ds xs → DCs S w (List.replicate ds.length .one) ds xs := by
    intro ds xs hd h
    induction h with
    | nil => simp [DCs]
    | cons h1 _ ih =>
      simp only [List.all_cons, Bool.and_eq_true] at hd
      simp only [List.length_cons, List.replicate_succ, DCs]
      rename_i d x l r _
      have hx : isAggV x = false := by rw [← h1.2]; simpa using hd.1
      have hcx : x.cells = #[x] := by cases x <;> first | rfl | simp [isAggV] at hx
      have h11 := h1.1
      rw [hcx] at h11
      exact ⟨_, _, [x], r, rfl, rfl, rfl, h11, ih hd.2⟩
  exact key _ _ hcaps hall

/-- Function values over boxes. -/
theorem Ev_funcV {k : FuncId} {caps : Array Operand} {vs : List V} (ha : caps.toList.map (ev f) = vs) (hcaps : vs.all (fun v => v.known && !v.isAgg) = true) : Ev P C n ⟨dst, .makeFunc (.func k) #[] caps, ty, pos, after, none⟩ f L (.fn k vs) := by
  intro a w β S hr
  refine ⟨.func (.func k) #[] (caps.toList.map a.eval).toArray, by
    have : caps.map a.eval = (caps.toList.map a.eval).toArray := by rw [← Array.toList_map]
    simp only [execOp, Instr.makeFunc, Sem.run_bind, Sem.run_pure, Result.andThen, ← this]
    simp, .inr ⟨?_, rfl⟩⟩
  simp only [VC]
  refine ⟨caps.toList.map a.eval, rfl, ?_⟩
  have key : ∀ (os : List Operand) (vs : List V), os.map (ev f) = vs → vs.all (fun v => v.known && !v.isAgg) = true → VCs β S w (List.replicate vs.length .one) vs (os.map a.eval) := by
    intro os
    induction os with
    | nil => rintro vs rfl _; simp [VCs]
    | cons o os ih =>
      rintro vs rfl hv
      simp only [List.map_cons, List.all_cons, Bool.and_eq_true] at hv
      simp only [List.map_cons, List.length_cons, List.replicate_succ, VCs]
      have h1 := rel_ev hr o
      have h2 := one_cell (known_VR0 h1 hv.1.1) (by intro e; rw [e] at hv; simp [V.known] at hv) (by simpa using hv.1.2)
      exact ⟨_, _, [a.eval o], _, rfl, rfl, rfl, h2, ih _ rfl hv.2⟩
  exact key _ _ ha hcaps

/-! ### States seen as others -/
def updl (f : Fr) : List (Nat × V) → Fr
  | [] => f
  | (i, v) :: r => upd (updl f r) i v

def dropL (is : List Nat) (L : Hp) : Hp := is.foldl (fun L i => L.set i none) L
theorem dropL_get : ∀ (is : List Nat) (L : Hp) (i : Nat) (b : Box), (dropL is L)[i]? = some (some b) → L[i]? = some (some b) ∧ i ∉ is
  | [], L, i, b, h => ⟨h, by simp⟩
  | j :: is, L, i, b, h => by
    obtain ⟨h1, h2⟩ := dropL_get is (L.set j none) i b h
    rw [List.getElem?_set] at h1
    by_cases e : j = i
    · subst e
      by_cases hj : j < L.length
      · rw [if_pos rfl, if_pos hj] at h1; cases h1
      · rw [if_pos rfl, if_neg hj] at h1; cases h1
    · rw [if_neg e] at h1
      exact ⟨h1, by simp [h2]; exact fun h => e h.symm⟩
theorem dropL_length (is : List Nat) (L : Hp) : (dropL is L).length = L.length := by
  induction is generalizing L with
  | nil => rfl
  | cons j is ih => simp [dropL] at ih ⊢; rw [ih]; simp

/-- Boxes that are read alone from here on. -/
theorem Rel.freeze {a : Act} {w : World} {β : Beta} {S : Nat → Prop} (h : Rel C n f L a w β S) (is : List Nat) : ∃ S', (∀ b, S b → S' b) ∧ Rel C n f (dropL is L) a w β S' ∧ ∀ v x, Reads L (fun i => i ∈ is) v x → ∀ y, VR0 β S w v y → VR0 β S' w (.d x) y := by
  let S' : Nat → Prop := fun b => S b ∨ ∃ i bx c, i ∈ is ∧ L[i]? = some (some bx) ∧ β i = some (some (b, c))
  have lat : Later β S w β S' w := ⟨fun _ _ h => h, fun _ h => .inl h, fun _ _ => rfl⟩
  refine ⟨S', fun _ h => .inl h, h.later lat ⟨fun i b hi => BoxR_later lat (fun _ _ _ => rfl) (h.hp.bx i b (dropL_get is L i b hi).1), fun i j b bx bx' c c' hi hj => h.hp.inj i j b bx bx' c c' (dropL_get is L i _ hi).1 (dropL_get is L j _ hj).1, ?_, ?_, fun i hi => h.hp.un i (by rwa [dropL_length] at hi)⟩ (fun i bx b c hi => h.own i bx b c (dropL_get is L i _ hi).1) ?_ h.pres, ?_⟩
  · rintro i bx b c hi hb (hs | ⟨j, bx', c', hj, hL, hbj⟩)
    · exact h.hp.own i bx b c (dropL_get is L i _ hi).1 hb hs
    · have := h.hp.inj i j b bx bx' c c' (dropL_get is L i _ hi).1 hL hb hbj
      subst this
      exact (dropL_get is L i _ hi).2 hj
  · rintro b (hs | ⟨j, bx', c', hj, hL, hbj⟩)
    · exact h.hp.fz b hs
    · exact (h.hp.bx j bx' hL).lt hbj
  · rintro b (hs | ⟨j, bx', c', hj, hL, hbj⟩)
    · exact h.fz b hs
    · exact .inr (h.own j bx' b c' hL hbj).symm
  · rintro v x hrd y (hv | ⟨hv, e⟩)
    · subst hv; cases hrd
    · exact .inr ⟨by simp only [VC]; exact Reads_sound h.hp (fun _ h => .inl h) (fun i bx b c hF hL hb => .inr ⟨i, bx, c, hF, hL, hb⟩) hrd _ hv, by rw [← e, Reads_isAgg hrd]; rfl⟩

/-- An empty box that takes no memory. -/
theorem Rel.virt {a : Act} {w : World} {β : Beta} {S : Nat → Prop} (h : Rel C n f L a w β S) (e : TypeId) (l : Lay) : Rel C n f (L ++ [some ⟨e, l, []⟩]) a w (setβ β L.length none) S := by
  have lat : Later β S w (setβ β L.length none) S w := later_new (h.hp.un _ (Nat.le_refl _)) fun _ _ => rfl
  have cases_ : ∀ i b, (L ++ [some (⟨e, l, []⟩ : Box)])[i]? = some (some b) → (i < L.length ∧ L[i]? = some (some b)) ∨ (i = L.length ∧ (⟨e, l, []⟩ : Box) = b) := fun i b hi => by
    rcases get_snoc _ _ _ _ hi with h1 | ⟨h1, h2⟩
    · exact .inl h1
    · exact .inr ⟨h1, by injection h2⟩
  have real : ∀ i bx b c, (L ++ [some (⟨e, l, []⟩ : Box)])[i]? = some (some bx) → setβ β L.length none i = some (some (b, c)) → i < L.length ∧ L[i]? = some (some bx) ∧ β i = some (some (b, c)) := fun i bx b c hi hb => by
    rcases cases_ i bx hi with ⟨h1, h2⟩ | ⟨rfl, _⟩
    · rw [setβ_ne _ _ (by omega)] at hb; exact ⟨h1, h2, hb⟩
    · rw [setβ_self] at hb; cases hb
  refine h.later lat ⟨?_, ?_, ?_, h.hp.fz, ?_⟩ ?_ h.fz h.pres
  · intro i b hi
    rcases cases_ i b hi with ⟨h1, h2⟩ | ⟨rfl, rfl⟩
    · exact BoxR_later lat (fun _ _ _ => rfl) (h.hp.bx i b h2)
    · exact ⟨Nat.zero_le _, .inl ⟨setβ_self _ _ _, rfl⟩⟩
  · intro i j b bx bx' c c' hi hj hbi hbj
    obtain ⟨_, h1, h2⟩ := real i bx b c hi hbi
    obtain ⟨_, k1, k2⟩ := real j bx' b c' hj hbj
    exact h.hp.inj i j b bx bx' c c' h1 k1 h2 k2
  · intro i bx b c hi hb
    obtain ⟨_, h1, h2⟩ := real i bx b c hi hb
    exact h.hp.own i bx b c h1 h2
  · intro i hi
    simp at hi
    rw [setβ_ne _ _ (by omega)]
    exact h.hp.un i (by omega)
  · intro i bx b c hi hb
    obtain ⟨_, h1, h2⟩ := real i bx b c hi hb
    exact h.own i bx b c h1 h2

/-- Frame by frame: slots that are told anew. -/
theorem Rel.updl {a : Act} {w : World} {β : Beta} {S : Nat → Prop} (h : Rel C n f L a w β S) : ∀ (us : List (Nat × V)), (∀ q ∈ us, VR β S w q.2 (a.tmps.getD q.1 undef)) → Rel C n (updl f us) L a w β S
  | [], _ => h
  | (i, v) :: us, hv => by
    have ih := Rel.updl h us fun q hq => hv q (by simp [hq])
    refine ⟨ih.df, ih.sz, fun j => ?_, ih.hp, ih.own, ih.fz, ih.s0, ih.pres⟩
    show VR β S w (upd (Go.Eng.updl f us) i v j) _
    by_cases e : j = i
    · subst e; rw [upd_self]; exact hv (j, v) (by simp)
    · rw [upd_ne _ _ _ _ e]; exact ih.fr j

/-- Each slot of the list reads as told. -/
def ReadsAll (L : Hp) (F : Nat → Prop) (f : Fr) : List (Nat × D) → Prop
  | [] => True
  | (i, x) :: r => Reads L F (f i) x ∧ ReadsAll L F f r
theorem ReadsAll_mem {L : Hp} {F : Nat → Prop} {f : Fr} : ∀ {us : List (Nat × D)}, ReadsAll L F f us → ∀ q ∈ us, Reads L F (f q.1) q.2
  | [], _, q, hq => by cases hq
  | (i, x) :: r, h, q, hq => by
    rcases List.mem_cons.1 hq with rfl | hq
    · exact h.1
    · exact ReadsAll_mem h.2 q hq
def asV (us : List (Nat × D)) : List (Nat × V) := us.map fun q => (q.1, .d q.2)

theorem reads_notup {F : Nat → Prop} {v : V} {x : D} (h : Reads L F v x) : v.known = true := by cases h <;> rfl

/-- Boxes 'is' are written no more: the slots 'us' are data now. -/
theorem Wk_freeze {Z : Fr → Hp → Prop} (is : List Nat) (us : List (Nat × D)) (hu : ReadsAll L (fun i => i ∈ is) f us) (h : Z (updl f (asV us)) (dropL is L)) : Wk C n f L Z := by
  intro a w β S hr
  obtain ⟨S', su, hr', hrd⟩ := hr.freeze is
  refine ⟨_, _, β, S', hr'.updl (asV us) fun q hq => ?_, h⟩
  obtain ⟨⟨i, x⟩, hm, rfl⟩ := List.mem_map.1 hq
  have hx := ReadsAll_mem hu _ hm
  exact VR_of_VR0 (hrd _ _ hx _ (known_VR0 (hr.fr i) (reads_notup hx)))

/-- A nil slice in a slot, seen as an empty box. -/
theorem Wk_nil_slot {Z : Fr → Hp → Prop} (s : Nat) (e : TypeId) (l : Lay) (hs : f s = nilsl) (m : Nat) (hm : L.length = m) (h : Z (upd f s (.ref l m 0 0)) (L ++ [some ⟨e, l, []⟩])) : Wk C n f L Z := by
  subst hm
  intro a w β S hr
  have hr' := hr.virt e l
  have hv := hr.fr s
  rw [hs] at hv
  have := (VR_c.1 hv).1
  exact ⟨_, _, _, S, hr'.updl [(s, .ref l L.length 0 0)] (fun q hq => by
    simp only [List.mem_singleton] at hq
    subst hq
    exact VR_ref_mk (.inl ⟨setβ_self _ _ _, this, rfl, rfl⟩)), h⟩
end
end Go.Eng

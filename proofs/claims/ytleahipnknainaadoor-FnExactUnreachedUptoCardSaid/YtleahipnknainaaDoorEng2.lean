/- The engine's judgements: code, lists of operations, single operations, calls; the rules of control. -/
import Derived.Test.YtleahipnknainaaDoorEng1
set_option linter.unusedVariables false
set_option linter.unusedSimpArgs false
namespace Go.Eng

def upd (f : Fr) (i : Nat) (v : V) : Fr := fun j => bif Nat.beq j i then v else f j
theorem upd_self (f : Fr) (i : Nat) (v : V) : upd f i v i = v := by simp [upd]
theorem upd_ne (f : Fr) (i j : Nat) (v : V) (h : j ≠ i) : upd f i v j = f j := by
  have : Nat.beq j i = false := by
    cases e : Nat.beq j i
    · rfl
    · exact absurd (Nat.eq_of_beq_eq_true e) h
  simp [upd, this]
def updo (f : Fr) : Option Tmp → V → Fr
  | some d, v => upd f d v
  | none, _ => f

abbrev i64 (n : Int) : V := .d (.c (.int .i64 n))
abbrev bl (b : Bool) : V := .d (.c (.bool b))
abbrev st (s : ByteArray) : V := .d (.c (.string s))
abbrev nilsl : V := .d (.c (.slice none 0 0))

def ev (f : Fr) : Operand → V
  | .tmp t => f t
  | .const x => bif Value.scalar x then .d (.c x) else .any
  | .global g => .d (.c (.pointer (some ⟨g, 0, none⟩)))
  | .func k => .d (.fn k [])

theorem cells_scalar {x : Value} (h : Value.scalar x = true) : x.cells = #[x] := by cases x <;> first | rfl | simp [Value.scalar] at h
theorem isAgg_scalar {x : Value} (h : Value.scalar x = true) : isAggV x = false := by cases x <;> first | rfl | simp [Value.scalar] at h

theorem VR0_c {β : Beta} {S : Nat → Prop} {w : World} {x y : Value} : VR0 β S w (.d (.c x)) y ↔ y = x ∧ Value.scalar x = true := by
  constructor
  · rintro (h | ⟨h, e⟩)
    · cases h
    · simp only [VC, DC] at h
      obtain ⟨h, hs⟩ := h
      have hy : isAggV y = false := by simpa [V.isAgg, D.isAgg] using e.symm
      have : y.cells = #[y] := by cases y <;> first | rfl | simp [isAggV] at hy
      rw [this] at h
      exact ⟨by simpa using h, hs⟩
  · rintro ⟨rfl, hs⟩
    refine .inr ⟨?_, ?_⟩
    · rw [cells_scalar hs]
      unfold VC DC
      exact ⟨rfl, hs⟩
    · rw [isAgg_scalar hs]
      rfl
theorem VR_c {β : Beta} {S : Nat → Prop} {w : World} {x y : Value} : VR β S w (.d (.c x)) y ↔ y = x ∧ Value.scalar x = true := VR0_c
theorem VR_any (β : Beta) (S : Nat → Prop) (w : World) (x : Value) : VR β S w .any x := .inl rfl

theorem rel_ev {C : Cx} {n : Nat} {f : Fr} {L : Hp} {a : Act} {w : World} {β : Beta} {S : Nat → Prop} (h : Rel C n f L a w β S) (x : Operand) : VR β S w (ev f x) (a.eval x) := by
  cases x with
  | tmp t => exact h.fr t
  | const x =>
    show VR β S w (bif Value.scalar x then .d (.c x) else .any) x
    cases hs : Value.scalar x
    · exact VR_any ..
    · exact VR_c.2 ⟨rfl, hs⟩
  | global g => exact VR_c.2 ⟨rfl, rfl⟩
  | func k =>
    refine .inr ⟨?_, rfl⟩
    unfold ev VC DC
    exact ⟨[], rfl, by unfold DCs; exact ⟨rfl, rfl⟩⟩

theorem getD_put (a : Act) (d : Nat) (x : Value) (h : d < a.tmps.size) (i : Nat) : (a.put (some d) x).tmps.getD i undef = if i = d then x else a.tmps.getD i undef := by
  simp only [Act.put, Array.getD_eq_getD_getElem?, Array.getElem?_setIfInBounds]
  by_cases e : d = i
  · subst e; simp [h]
  · have : ¬ i = d := fun h => e h.symm
    simp [e, this]

theorem Rel.put {C : Cx} {n : Nat} {f : Fr} {L : Hp} {a : Act} {w : World} {β : Beta} {S : Nat → Prop} (h : Rel C n f L a w β S) {d : Nat} {v : V} {x : Value} (hd : d < n) (hv : VR β S w v x) :
    Rel C n (upd f d v) L (a.put (some d) x) w β S := by
  refine ⟨h.df, by simpa [Act.put] using h.sz, fun i => ?_, h.hp, h.own, h.fz, h.s0, h.pres⟩
  rw [getD_put a d x (by rw [h.sz]; exact hd)]
  by_cases e : i = d
  · subst e; rw [upd_self]; simpa using hv
  · rw [upd_ne _ _ _ _ e, if_neg e]; exact h.fr i

theorem Rel.puto {C : Cx} {n : Nat} {f : Fr} {L : Hp} {a : Act} {w : World} {β : Beta} {S : Nat → Prop} (h : Rel C n f L a w β S) {dst : Option Tmp} {v : V} {x : Value} (hd : ∀ d, dst = some d → d < n) (hv : VR β S w v x) :
    Rel C n (updo f dst v) L (a.put dst x) w β S := by
  cases dst with
  | none => exact h
  | some d => exact h.put (hd d rfl) hv

/-- A later world under the same frame. -/
theorem Rel.later {C : Cx} {n : Nat} {f : Fr} {L L' : Hp} {a : Act} {w w' : World} {β β' : Beta} {S S' : Nat → Prop} (h : Rel C n f L a w β S) (k : Later β S w β' S' w') (hp : HeapR β' S' w' L')
    (own : ∀ i bx b c, L'[i]? = some (some bx) → β' i = some (some (b, c)) → C.Dm b ∨ C.w0.heap.size ≤ b) (fz : ∀ b, S' b → C.S0 b ∨ C.w0.heap.size ≤ b ∨ C.Dm b) (pres : Pres C.Dm C.w0 w') : Rel C n f L' a w' β' S' :=
  ⟨h.df, h.sz, fun i => VR_later k (h.fr i), hp, own, fz, fun b e => k.su b (h.s0 b e), pres⟩

section
variable (P : Program) (C : Cx) (n : Nat)
abbrev AQ := Exit → Act → World → Prop
/-- Whatever state stands so, K holds of it. -/
def Fin (K : Act → World → Prop) (f : Fr) (L : Hp) : Prop := ∀ a w β S, Rel C n f L a w β S → K a w
def AC (c : Code) (Q : AQ) (f : Fr) (L : Hp) : Prop := ∀ a w β S, Rel C n f L a w β S → c.wp P Q a w
def AL (ops : Array Oper) (rest : List Oper) (Q : AQ) (f : Fr) (L : Hp) : Prop := ∀ a w β S, Rel C n f L a w β S → wpList P ops Q rest a w
def StQ (o : Oper) (f : Fr) (L : Hp) (Z : Fr → Hp → Prop) : Prop :=
  ∀ a w β S, Rel C n f L a w β S → ∀ (K : Act → World → Prop) (Qc : Exit → Act → World → Prop), (∀ a' w' β' S' f' L', Rel C n f' L' a' w' β' S' → Z f' L' → K a' w') → o.wp P a w K Qc
def Ev (o : Oper) (f : Fr) (L : Hp) (v : V) : Prop :=
  ∀ a w β S, Rel C n f L a w β S → ∃ x, (execOp a.eval o).run P w = .ok (.value x) w ∧ VR β S w v x
end

def thenQ (K : Act → World → Prop) (Q : AQ) : AQ
  | .normal => K
  | e => Q e
def inBlk (id : Nat) (Q : AQ) : AQ
  | .exit i => bif Nat.beq i id then Q .normal else Q (.exit i)
  | e => Q e

section
variable {P : Program} {C : Cx} {n : Nat} {Q : AQ} {f : Fr} {L : Hp}

theorem AC_seq {x y : Code} (h : ∀ K : Act → World → Prop, (∀ C f L, AC P C n y Q f L → Fin C n K f L) → AC P C n x (thenQ K Q) f L) : AC P C n (.seq x y) Q f L := by
  intro a w β S hr
  refine wp_seq (wp_mono (h (fun a w => y.wp P Q a w) (fun C f L k a w β S hr => k a w β S hr) a w β S hr) ?_)
  rintro e a w hq
  cases e with
  | normal => exact hq
  | _ => exact hq

theorem AC_skip (h : Fin C n (Q .normal) f L) : AC P C n .skip Q f L := fun a w β S hr => wp_skip (h a w β S hr)
theorem AC_ret (h : Fin C n (Q .ret) f L) : AC P C n .ret Q f L := fun a w β S hr => wp_ret (h a w β S hr)
theorem AC_exit {id : Nat} (h : Fin C n (Q (.exit id)) f L) : AC P C n (.exit id) Q f L := fun a w β S hr => wp_exit (h a w β S hr)

theorem AC_block {id : Nat} {c : Code} (h : AC P C n c (inBlk id Q) f L) : AC P C n (.block id c) Q f L := by
  intro a w β S hr
  refine wp_block (wp_mono (h a w β S hr) ?_)
  rintro e a w hq
  cases e with
  | exit i =>
    simp only [Exit.inBlock]
    by_cases e : i = id
    · subst e
      rw [if_pos rfl]
      simpa [inBlk] using hq
    · rw [if_neg e]
      have : Nat.beq i id = false := by
        cases h : Nat.beq i id
        · rfl
        · exact absurd (Nat.eq_of_beq_eq_true h) e
      simpa [inBlk, this] using hq
  | _ => exact hq

theorem eval_bool {a : Act} {w : World} {β : Beta} {S : Nat → Prop} (hr : Rel C n f L a w β S) {x : Operand} {b : Bool} (h : ev f x = bl b) : a.eval x = .bool b := by
  have := rel_ev hr x
  rw [h] at this
  exact (VR_c.1 this).1
theorem eval_c {a : Act} {w : World} {β : Beta} {S : Nat → Prop} (hr : Rel C n f L a w β S) {x : Operand} {y : Value} (h : ev f x = .d (.c y)) : a.eval x = y := by
  have := rel_ev hr x
  rw [h] at this
  exact (VR_c.1 this).1

theorem AC_cond {c : Operand} {x y : Code} {b : Bool} (hc : ev f c = bl b) (ht : b = true → AC P C n x Q f L) (hf : b = false → AC P C n y Q f L) : AC P C n (.cond c x y) Q f L := by
  intro a w β S hr
  exact wp_cond_split (eval_bool hr hc) (fun e => ht e a w β S hr) (fun e => hf e a w β S hr)
theorem AC_cond_t {c : Operand} {x y : Code} (hc : ev f c = bl true) (ht : AC P C n x Q f L) : AC P C n (.cond c x y) Q f L := AC_cond hc (fun _ => ht) (fun h => by cases h)
theorem AC_cond_f {c : Operand} {x y : Code} (hc : ev f c = bl false) (hf : AC P C n y Q f L) : AC P C n (.cond c x y) Q f L := AC_cond hc (fun h => by cases h) (fun _ => hf)

/-- One state may be seen as another. -/
def Wk (C : Cx) (n : Nat) (f : Fr) (L : Hp) (Z : Fr → Hp → Prop) : Prop :=
  ∀ a w β S, Rel C n f L a w β S → ∃ f' L' β' S', Rel C n f' L' a w β' S' ∧ Z f' L'
theorem Wk.done {Z : Fr → Hp → Prop} (h : Z f L) : Wk C n f L Z := fun a w β S hr => ⟨f, L, β, S, hr, h⟩
theorem AC_wk {c : Code} (h : Wk C n f L (AC P C n c Q)) : AC P C n c Q f L := by
  intro a w β S hr
  obtain ⟨f', L', β', S', hr', k⟩ := h a w β S hr
  exact k a w β' S' hr'
theorem AL_wk {ops : Array Oper} {rest : List Oper} (h : Wk C n f L (AL P C n ops rest Q)) : AL P C n ops rest Q f L := by
  intro a w β S hr
  obtain ⟨f', L', β', S', hr', k⟩ := h a w β S hr
  exact k a w β' S' hr'
theorem Wk.mono {Z Z' : Fr → Hp → Prop} (h : Wk C n f L Z) (k : ∀ f L, Z f L → Z' f L) : Wk C n f L Z' := fun a w β S hr =>
  let ⟨f', L', β', S', hr', z⟩ := h a w β S hr; ⟨f', L', β', S', hr', k _ _ z⟩

theorem Fin_wk {K : Act → World → Prop} (h : Wk C n f L (fun f' L' => Fin C n K f' L')) : Fin C n K f L := by
  intro a w β S hr
  obtain ⟨f', L', β', S', hr', k⟩ := h a w β S hr
  exact k a w β' S' hr'

theorem AC_mono {c : Code} {Q' : AQ} (h : AC P C n c Q f L) (k : ∀ e a w, Q e a w → Q' e a w) : AC P C n c Q' f L := fun a w β S hr =>
  wp_mono (h a w β S hr) fun _ _ _ hq => k _ _ _ hq

/-- Some state stands so, under some context. -/
def Held (n : Nat) (J : Cx → Fr → Hp → Prop) (a : Act) (w : World) : Prop := ∃ C f L β S, Rel C n f L a w β S ∧ J C f L

/-- A loop: I m: at the head, with m to go down. -/
theorem AC_loopC {c : Code} (I : Nat → Cx → Fr → Hp → Prop) (h0 : Fin C n (fun a w => ∃ m, Held n (I m) a w) f L)
    (round : ∀ m C f L, I m C f L → AC P C n c (thenQ (fun a w => ∃ m', m' < m ∧ Held n (I m') a w) Q) f L) : AC P C n (.loop c) Q f L := by
  intro a w β S hr
  -- the measure of a state: the least m at which it stands
  let J : Act → World → Prop := fun a w => ∃ m, Held n (I m) a w
  have least : ∀ a w, J a w → ∃ m, Held n (I m) a w ∧ ∀ m', m' < m → ¬ Held n (I m') a w := by
    intro a w ⟨m, hm⟩
    induction m using Nat.strongRecOn with
    | _ m ih =>
      by_cases h : ∃ m', m' < m ∧ Held n (I m') a w
      · obtain ⟨m', hlt, h'⟩ := h
        exact ih m' hlt h'
      · exact ⟨m, hm, fun m' hlt h' => h ⟨m', hlt, h'⟩⟩
  classical
  let μ : Act → World → Nat := fun a w => if h : J a w then Classical.choose (least a w h) else 0
  refine wp_loop J μ ?_ ?_
  · exact h0 a w β S hr
  · intro a w hJ
    have hμ : μ a w = Classical.choose (least a w hJ) := by simp only [μ, dif_pos hJ]
    obtain ⟨⟨C1, f1, L1, β1, S1, hr1, hI1⟩, _⟩ := Classical.choose_spec (least a w hJ)
    rw [← hμ] at hI1
    refine wp_mono (round _ C1 f1 L1 hI1 a w β1 S1 hr1) ?_
    rintro e a' w' hq
    cases e with
    | normal =>
      obtain ⟨m', hlt, hh⟩ := hq
      have hJ' : J a' w' := ⟨m', hh⟩
      refine ⟨hJ', ?_⟩
      have hμ' : μ a' w' = Classical.choose (least a' w' hJ') := by simp only [μ, dif_pos hJ']
      obtain ⟨_, hmin⟩ := Classical.choose_spec (least a' w' hJ')
      rw [← hμ'] at hmin
      have : ¬ m' < μ a' w' := fun h => hmin m' h hh
      omega
    | _ => exact hq

theorem AC_loop {c : Code} (I : Nat → Fr → Hp → Prop) (m : Nat) (h0 : Wk C n f L (I m))
    (round : ∀ m f L, I m f L → AC P C n c (thenQ (fun a w => ∃ f L β S, Rel C n f L a w β S ∧ ∃ m', m' < m ∧ I m' f L) Q) f L) : AC P C n (.loop c) Q f L := by
  refine AC_loopC (fun m C' f L => C' = C ∧ I m f L) ?_ ?_
  · intro a w β S hr
    obtain ⟨f', L', β', S', hr', hI⟩ := h0 a w β S hr
    exact ⟨m, C, f', L', β', S', hr', rfl, hI⟩
  · rintro m _ f L ⟨rfl, hI⟩
    refine AC_mono (round m f L hI) fun e a w hq => ?_
    cases e with
    | normal =>
      obtain ⟨f', L', β', S', hr', m', hlt, hI'⟩ := hq
      exact ⟨m', hlt, _, f', L', β', S', hr', rfl, hI'⟩
    | _ => exact hq

theorem AC_region {id : Nat} {l : List Oper} (h : AL P C n l.toArray l Q f L) : AC P C n (.region id l.toArray false) Q f L := fun a w β S hr =>
  wp_region_lit (h a w β S hr)

theorem AL_nil {ops : Array Oper} (h : Fin C n (Q .normal) f L) : AL P C n ops [] Q f L := fun a w β S hr => wpList_nil (h a w β S hr)

theorem AL_stepQ {ops : Array Oper} {o : Oper} {rest : List Oper} {Z : Fr → Hp → Prop} (hg : o.guard = none) (hs : StQ P C n o f L Z) (h : ∀ f' L', Z f' L' → AL P C n ops rest Q f' L') : AL P C n ops (o :: rest) Q f L := by
  intro a w β S hr
  refine wpList_plain hg fun K hK => ?_
  exact hs a w β S hr K _ fun a' w' β' S' f' L' hr' hz => hK _ _ (h f' L' hz a' w' β' S' hr')

def dstOk (n : Nat) : Option Tmp → Bool
  | some d => Nat.blt d n
  | none => true
theorem dstOk_spec {dst : Option Tmp} (h : dstOk n dst = true) : ∀ d, dst = some d → d < n := by
  rintro d rfl
  simpa [dstOk, Nat.blt_eq] using h

theorem AL_ev {ops : Array Oper} {dst : Option Tmp} {op : Op} {ty : TypeId} {pos : String} {after : Array Edge} {rest : List Oper} {v : V} (he : Ev P C n ⟨dst, op, ty, pos, after, none⟩ f L v) (hd : dstOk n dst = true)
    (h : AL P C n ops rest Q (updo f dst v) L) : AL P C n ops (⟨dst, op, ty, pos, after, none⟩ :: rest) Q f L := by
  refine AL_stepQ (Z := fun f' L' => f' = updo f dst v ∧ L' = L) rfl ?_ (fun f' L' ⟨h1, h2⟩ => by subst h1; subst h2; exact h)
  intro a w β S hr K Qc hK
  obtain ⟨x, hx, hv⟩ := he a w β S hr
  unfold Oper.wp
  rw [hx, Oper.upon_value]
  exact hK _ _ β S _ _ (hr.puto (dstOk_spec hd) hv) ⟨rfl, rfl⟩

/-- An operation under a guard: taken. -/
theorem AL_guard_t {ops : Array Oper} {dst : Option Tmp} {op : Op} {ty : TypeId} {pos : String} {after : Array Edge} {rest : List Oper} {j s : Nat} {want : Bool} (hj : (ops[j]?).bind (·.dst) = some s) (hs : Nat.blt s n = true)
    (hv : f s = bl want) (h : AL P C n ops (⟨dst, op, ty, pos, after, none⟩ :: rest) Q f L) : AL P C n ops (⟨dst, op, ty, pos, after, some (j, want)⟩ :: rest) Q f L := by
  intro a w β S hr
  have hsn : s < a.tmps.size := by rw [hr.sz]; simpa [Nat.blt_eq] using hs
  have h1 := hr.fr s
  rw [hv] at h1
  have h1 := (VR_c.1 h1).1
  have h2 := h a w β S hr
  unfold wpList at h2 ⊢
  have hy : Region.wanted ⟨dst, op, ty, pos, after, some (j, want)⟩ (yielded ops a.tmps) = true := by
    have : a.tmps[s]? = some (.bool want) := by
      rw [Array.getD_eq_getD_getElem?] at h1
      rw [Array.getElem?_eq_getElem hsn] at h1 ⊢
      simpa using h1
    simp [Region.wanted, yielded, hj, this]
  rw [if_pos hy]
  rw [if_pos (by simp [Region.wanted])] at h2
  exact h2
/-- An operation under a guard: passed by. -/
theorem AL_guard_f {ops : Array Oper} {dst : Option Tmp} {op : Op} {ty : TypeId} {pos : String} {after : Array Edge} {rest : List Oper} {j s : Nat} {want : Bool} (hj : (ops[j]?).bind (·.dst) = some s) (hs : Nat.blt s n = true)
    (hv : f s = bl (!want)) (hd : dstOk n dst = true) (h : AL P C n ops rest Q (updo f dst .any) L) : AL P C n ops (⟨dst, op, ty, pos, after, some (j, want)⟩ :: rest) Q f L := by
  intro a w β S hr
  have hsn : s < a.tmps.size := by rw [hr.sz]; simpa [Nat.blt_eq] using hs
  have h1 := hr.fr s
  rw [hv] at h1
  have h1 := (VR_c.1 h1).1
  unfold wpList
  have hy : Region.wanted ⟨dst, op, ty, pos, after, some (j, want)⟩ (yielded ops a.tmps) = false := by
    have : a.tmps[s]? = some (.bool (!want)) := by
      rw [Array.getD_eq_getD_getElem?] at h1
      rw [Array.getElem?_eq_getElem hsn] at h1 ⊢
      simpa using h1
    cases want <;> simp [Region.wanted, yielded, hj, this]
  rw [if_neg (by simp [hy])]
  exact h _ w β S (hr.puto (dstOk_spec hd) (VR_any ..))
end

end Go.Eng

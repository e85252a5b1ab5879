/- Draws: functions that are handed a cursor by its address, move it, and hand out data. -/
import Derived.Test.YtjhdkjacfclipaaSm
set_option linter.unusedVariables false
set_option linter.unusedSimpArgs false
namespace Go.Eng
/-- A cursor: bytes, a place in them, a number. -/
def CurW (S : Nat → Prop) (w : World) (b : Nat) (bs : List Int) : Prop :=
  ¬ S b ∧ ∃ (cu : List Value) (ty : TypeId) (sv : Value) (i h : Int) (Cp : Nat), w.heap[b]? = some (.cells cu.toArray ty (0, 0)) ∧ cu.length = Cp * 3 ∧ 1 ≤ Cp ∧ Cp ≤ maxLen ∧ cu[0]? = some sv ∧ cu[1]? = some (.int .i64 i) ∧ cu[2]? = some (.int .i64 h) ∧ 0 ≤ i ∧ i ≤ bs.length ∧ DC S w (.sl .one (u8s bs)) [sv]
structure CurC (C : Cx) (b : Nat) (bs : List Int) : Prop where
  dm : ¬ C.Dm b
  cur : CurW C.S0 C.w0 b bs
  fz : ∀ c, C.S0 c → c < C.w0.heap.size ∧ ¬ C.Dm c
theorem CurW.lt {S : Nat → Prop} {w : World} {b : Nat} {bs : List Int} (h : CurW S w b bs) : b < w.heap.size := by
  obtain ⟨_, cu, ty, sv, i, hh, Cp, h1, _⟩ := h
  exact (Array.getElem?_eq_some_iff.1 h1).1
theorem CurW.later {S S' : Nat → Prop} {w w' : World} {b : Nat} {bs : List Int} (h : CurW S w b bs) (hb : ¬ S' b) (su : ∀ c, S c → S' c) (bl : ∀ c, S c → w'.heap[c]? = w.heap[c]?) (e : w'.heap[b]? = w.heap[b]?) : CurW S' w' b bs := by
  obtain ⟨_, cu, ty, sv, i, hh, Cp, h1, g1, g2, g3, h2, h3, h4, h5, h6, h7⟩ := h
  exact ⟨hb, cu, ty, sv, i, hh, Cp, e.trans h1, g1, g2, g3, h2, h3, h4, h5, h6, DC_later su bl _ _ h7⟩
/-- A function that draws. -/
def DCall (P : Program) (k : FuncId) (ds : List D) (R : D → Prop) : Prop :=
  ∀ (w : World) (S : Nat → Prop) (b : Nat) (bs : List Int) (xs : List Value), (∀ b, S b → b < w.heap.size) → bs.length ≤ lim → Tab P S w → CurW S w b bs → All2 (RD S w) ds xs →
    Calls P k (Value.pointer (some ⟨b, 0, none⟩) :: xs).toArray w fun e w' => ∃ x r S', e = .returned x ∧ R r ∧ RD S' w' r x ∧ CurW S' w' b bs ∧ (∀ b, S b → S' b) ∧ (∀ b, S' b → b < w'.heap.size ∧ (S b ∨ w.heap.size ≤ b)) ∧ Pres (fun c => c = b) w w'
/-- What makes a cursor. -/
def NewCur (P : Program) (k : FuncId) : Prop :=
  ∀ (w : World) (S : Nat → Prop) (bs : List Int) (xs : List Value), (∀ b, S b → b < w.heap.size) → Tab P S w → All2 (RD S w) [.sl .one (u8s bs)] xs →
    Calls P k xs.toArray w fun e w' => ∃ b S', e = .returned (.pointer (some ⟨b, 0, none⟩)) ∧ w.heap.size ≤ b ∧ CurW S' w' b bs ∧ (∀ b, S b → S' b) ∧ (∀ b, S' b → b < w'.heap.size ∧ (S b ∨ w.heap.size ≤ b)) ∧ Pres (fun _ => False) w w'
theorem DCall.mono {P : Program} {k : FuncId} {ds : List D} {R R' : D → Prop} (h : DCall P k ds R) (hr : ∀ r, R r → R' r) : DCall P k ds R' := fun w S b bs xs hS hl hT hc hd =>
  (h w S b bs xs hS hl hT hc hd).mono fun e w' ⟨x, r, S', h1, h2, h3⟩ => ⟨x, r, S', h1, hr r h2, h3⟩
section
variable {P : Program} {C : Cx} {n : Nat} {f : Fr} {L : Hp} {Q : AQ} {ops : Array Oper} {rest : List Oper} {dst : Option Tmp} {ty : TypeId} {pos : String} {after : Array Edge} {a : Act} {w w' : World} {β : Beta} {S S' : Nat → Prop} {i : Nat} {r : List Nat}
theorem CT.drawn {C C' : Cx} {b : Nat} {bs : List Int} (h : CT P C) (hb : CurC C b bs) (k : Mk C [b] C') : CT P C' := fun g hg => by
  obtain ⟨h1, h2, h3⟩ := h g hg
  have hl := TabIs_lt hg h3
  have hgb : g ≠ b := fun e => hb.cur.1 (e ▸ h1)
  refine ⟨k.s0 g h1, fun hd => ?_, TabIs_same hg h3 (k.pres.block g hl fun h4 => h4.elim h2 fun h5 => hgb (List.mem_singleton.1 h5))⟩
  rcases k.dm g hd with h4 | h4
  · exact h2 h4
  · omega
/-- The cursor as a call finds it. -/
theorem CurC.now {b : Nat} {bs : List Int} (h : CurC C b bs) (hr : Rel C n f L a w β S) : CurW S w b bs ∧ ∀ i bx c, L[i]? = some (some bx) → β i ≠ some (some (b, c)) := by
  have hlt := h.cur.lt
  have hsz := hr.pres.size
  refine ⟨h.cur.later (fun hb => ?_) hr.s0 (fun c hc => hr.pres.block c (h.fz c hc).1 (h.fz c hc).2) (hr.pres.block b hlt h.dm), fun i bx c hL hb => ?_⟩
  · rcases hr.fz b hb with k | k | k
    · exact h.cur.1 k
    · omega
    · exact h.dm k
  · rcases hr.own i bx b c hL hb with k | k
    · exact h.dm k
    · omega
/-- The state behind a call that moved the cursor. -/
theorem Rel.drawn {b : Nat} {bs : List Int} (hr : Rel C n f L a w β S) (hc : CurC C b bs) (hp : Pres (fun c => c = b) w w') (su : ∀ c, S c → S' c) (hS : ∀ c, S' c → c < w'.heap.size ∧ (S c ∨ w.heap.size ≤ c)) (hcu : CurW S' w' b bs) :
    Rel ⟨w', boxBlk L β, S'⟩ n f L a w' β S' ∧ Mk C [b] ⟨w', boxBlk L β, S'⟩ ∧ CurC ⟨w', boxBlk L β, S'⟩ b bs := by
  obtain ⟨h1, h2⟩ := hc.now hr
  have hsz := hr.pres.size
  have hsz2 := hp.size
  have old : ∀ c, c < w.heap.size → c ≠ b → w'.heap[c]? = w.heap[c]? := fun c hc hne => hp.block c hc hne
  have lat : Later β S w β S' w' := ⟨fun _ _ h => h, su, fun c hc => old c (hr.hp.fz c hc) fun e => h1.1 (e ▸ hc)⟩
  have own' : ∀ i bx c cc, L[i]? = some (some bx) → β i = some (some (c, cc)) → ¬ S' c := fun i bx c cc hL hb hs => by
    rcases (hS c hs).2 with k | k
    · exact hr.hp.own i bx c cc hL hb k
    · have := (hr.hp.bx i bx hL).lt hb; omega
  refine ⟨⟨hr.df, hr.sz, fun i => VR_later lat (hr.fr i), ⟨fun i bx hi => BoxR_later lat (fun c cc hb => old c ((hr.hp.bx i bx hi).lt hb) fun e => h2 i bx cc hi (e ▸ hb)) (hr.hp.bx i bx hi), hr.hp.inj, own', fun c hc => (hS c hc).1, hr.hp.un, hr.hp.ad⟩, fun i bx c cc hL hb => .inl ⟨i, bx, cc, hL, hb⟩, fun c hc => .inl hc, fun c hc => hc, Pres.refl _ _⟩, ?_, ?_⟩
  · refine ⟨⟨hp.os.trans hr.pres.os, hp.tape.trans hr.pres.tape, hp.output.trans hr.pres.output, Nat.le_trans hsz hsz2, fun c hc hd => ?_⟩, fun c ⟨i, bx, cc, hL, hb⟩ => hr.own i bx c cc hL hb, fun c hc => su c (hr.s0 c hc), fun c hc => ?_⟩
    · exact (old c (by omega) fun e => hd (.inr (by simp [e]))).trans (hr.pres.block c hc fun h => hd (.inl h))
    · rcases (hS c hc).2 with k | k
      · exact hr.fz c k
      · exact .inr (.inl (by omega))
  · exact ⟨fun ⟨i, bx, cc, hL, hb⟩ => h2 i bx cc hL hb, hcu, fun c hc => ⟨(hS c hc).1, fun ⟨i, bx, cc, hL, hb⟩ => own' i bx c cc hL hb hc⟩⟩
theorem dcall_wp {b : Nat} {bs : List Int} (hT : CT P C) (hc : CurC C b bs) (hl : bs.length ≤ lim) {x y : Operand} {args : List Operand} {ts : Array TypeId} {k : FuncId} {ds : List D} {R : D → Prop} (hr : Rel C n f L a w β S) (hx : ev f x = .d (.fn k [])) (hcl : Callable P k) (hp : DCall P k ds R) (hy : ev f y = rawP b 0) (ha : args.map (ev f) = ds.map V.d) (hd : dstOk n dst = true)
    (K : Act → World → Prop) (Qc : Exit → Act → World → Prop) (hK : ∀ C' r a' w' β' S', R r → Mk C [b] C' → CurC C' b bs → Rel C' n (updo f dst (.d r)) L a' w' β' S' → K a' w') : Oper.wp P ⟨dst, callV x (y :: args).toArray ts, ty, pos, after, none⟩ a w K Qc := by
  have hv := rel_ev hr x
  rw [hx] at hv
  obtain ⟨cv, c1, c2⟩ := VR_fn hv
  have hcv : cv = [] := by
    have := (DCs_len _ _ _ c2).1
    simpa [Lay.lens] using this
  subst hcv
  unfold Oper.wp
  rw [call_run hcl c1, Oper.upon_enter]
  have heq : ((y :: args).toArray.map a.eval ++ ([] : List Value).toArray) = (Value.pointer (some ⟨b, 0, none⟩) :: args.map a.eval).toArray := by
    have := eval_c hr hy
    simp [this]
  rw [heq]
  obtain ⟨h1, h2⟩ := hc.now hr
  refine (hp w S b bs _ hr.hp.fz hl (hT.tab hr) h1 (args_RD hr args ds ha)).mono ?_
  rintro e w' ⟨z, r, S', rfl, q1, q2, q3, q4, q5, q6⟩
  obtain ⟨k1, k2, k3⟩ := hr.drawn hc q6 q4 q5 q3
  exact hK _ r _ _ _ _ q1 k2 k3 (k1.puto (dstOk_spec hd) (VR_of_VR0 (.inr q2)))
theorem AL_dcall {b : Nat} {bs : List Int} (hT : CT P C) (hc : CurC C b bs) (hl : bs.length ≤ lim) {x y : Operand} {args : List Operand} {ts : Array TypeId} {k : FuncId} {ds : List D} {R : D → Prop} (hx : ev f x = .d (.fn k [])) (hcl : Callable P k) (hp : DCall P k ds R) (hy : ev f y = rawP b 0) (ha : args.map (ev f) = ds.map V.d) (hd : dstOk n dst = true)
    (h : ∀ C' r, R r → Mk C [b] C' → CurC C' b bs → CT P C' → AL P C' n ops rest Q (updo f dst (.d r)) L) : AL P C n ops (⟨dst, callV x (y :: args).toArray ts, ty, pos, after, none⟩ :: rest) Q f L := by
  intro a w β S hr
  refine wpList_plain rfl fun K hK => ?_
  exact dcall_wp hT hc hl hr hx hcl hp hy ha hd K _ fun C' r a' w' β' S' h1 h2 h3 h4 => hK _ _ (h C' r h1 h2 h3 (hT.drawn hc h2) _ _ _ _ h4)
theorem StE_dcall {b : Nat} {bs : List Int} (hT : CT P C) (hc : CurC C b bs) (hl : bs.length ≤ lim) {x y : Operand} {args : List Operand} {ts : Array TypeId} {k : FuncId} {ds : List D} {R : D → Prop} {g : Option (Nat × Bool)} (hrun : ∀ (a : Act) (w : World) (β : Beta) (S : Nat → Prop) (f' : Fr) (L' : Hp), (∀ s ∈ (⟨dst, callV x (y :: args).toArray ts, ty, pos, after, g⟩ : Oper).looksAt ops, f' s = f s) → Rel C n f' L' a w β S → Region.wanted (⟨dst, callV x (y :: args).toArray ts, ty, pos, after, g⟩ : Oper) (yielded ops a.tmps) = true)
    (hx : ev f x = .d (.fn k [])) (hcl : Callable P k) (hp : DCall P k ds R) (hy : ev f y = rawP b 0) (ha : args.map (ev f) = ds.map V.d) (hd : dstOk n dst = true) :
    StE P C n ops ⟨dst, callV x (y :: args).toArray ts, ty, pos, after, g⟩ f (fun C' v => ∃ r, R r ∧ Mk C [b] C' ∧ CurC C' b bs ∧ v = .d r) := by
  intro f' hf L' a w β S hr K Qc hK
  have hev := ev_looks hf
  have hx' : ev f' x = .d (.fn k []) := (hev x (by simp [Op.operands, Call.operands])).trans hx
  have hy' : ev f' y = rawP b 0 := (hev y (by simp [Op.operands, Call.operands])).trans hy
  have ha' : args.map (ev f') = ds.map V.d := by
    rw [maps_congr fun z hz => hev z (by simp [Op.operands, Call.operands]; exact .inr (.inr hz))]
    exact ha
  unfold runOr
  rw [if_pos (hrun a w β S f' L' hf hr)]
  exact dcall_wp (ty := ty) (pos := pos) (after := after) hT hc hl hr hx' hcl hp hy' ha' hd K Qc fun C' r a' w' β' S' h1 h2 h3 h4 => hK C' _ _ _ _ _ ⟨r, h1, h2, h3, rfl⟩ h4
theorem DT_dcall {b : Nat} {bs : List Int} (hT : CT P C) (hc : CurC C b bs) (hl : bs.length ≤ lim) {x y : Operand} {args : List Operand} {ts : Array TypeId} {k : FuncId} {ds : List D} {R : D → Prop} (ho : ops[i]? = some ⟨dst, callV x (y :: args).toArray ts, ty, pos, after, none⟩)
    (hx : ev f x = .d (.fn k [])) (hcl : Callable P k) (hp : DCall P k ds R) (hy : ev f y = rawP b 0) (ha : args.map (ev f) = ds.map V.d) (hd : dstOk n dst = true) (hr : (r.all fun j => (lookM (masks ops (i :: r) []) j).testBit i) = true)
    (h : ∀ C' q, R q → Mk C [b] C' → CurC C' b bs → CT P C' → DT P n ops C' Q r (updo f dst (.d q)) L) : DT P n ops C Q (i :: r) f L :=
  .e ho rfl (StE_dcall hT hc hl (fun _ _ _ _ _ _ _ _ => by simp [Region.wanted]) hx hcl hp hy ha hd) hr (fun C' v ⟨_, _, h1, _⟩ hT => hT.drawn hc h1) fun C' v ⟨q, h0, h1, h2, h3⟩ => by subst h3; exact h C' q h0 h1 h2 (hT.drawn hc h1)
/-- A cursor is made. -/
theorem AL_newcur (hT : CT P C) {bs : List Int} {x y : Operand} {ts : Array TypeId} {k : FuncId} (hx : ev f x = .d (.fn k [])) (hcl : Callable P k) (hp : NewCur P k) (hy : ev f y = .d (.sl .one (u8s bs))) (hd : dstOk n dst = true)
    (h : ∀ C' b, CExt C C' → C.w0.heap.size ≤ b → CurC C' b bs → AL P C' n ops rest Q (updo f dst (rawP b 0)) L) : AL P C n ops (⟨dst, callV x #[y] ts, ty, pos, after, none⟩ :: rest) Q f L := by
  intro a w β S hr
  refine wpList_plain rfl fun K hK => ?_
  have hv := rel_ev hr x
  rw [hx] at hv
  obtain ⟨cv, c1, c2⟩ := VR_fn hv
  have hcv : cv = [] := by
    have := (DCs_len _ _ _ c2).1
    simpa [Lay.lens] using this
  subst hcv
  unfold Oper.wp
  rw [call_run hcl c1, Oper.upon_enter]
  have heq : ((#[y] : Array Operand).map a.eval ++ ([] : List Value).toArray) = ([y].map a.eval).toArray := by simp
  rw [heq]
  refine (hp w S bs _ hr.hp.fz (hT.tab hr) (args_RD hr [y] [.sl .one (u8s bs)] (by simp [hy]))).mono ?_
  rintro e w' ⟨b, S', rfl, q1, q2, q3, q4, q5⟩
  have hr' := hr.called q5 q3 q4
  obtain ⟨h1, h2⟩ := hr'.restart
  refine hK _ _ (h _ b h1 (by have := hr.pres.size; omega) ⟨fun ⟨i, bx, c, hL, hb⟩ => ?_, q2, fun c hc => ⟨(q4 c hc).1, fun ⟨i, bx, cc, hL, hb⟩ => ?_⟩⟩ _ _ _ _ (h2.puto (dstOk_spec hd) (VR_c.2 ⟨rfl, rfl⟩)))
  · have := (hr.hp.bx i bx hL).lt hb; omega
  · exact hr'.hp.own i bx c cc hL hb hc
/-! ### The start and the end of a function that draws -/
def frD (b : Nat) (ds : List D) : Fr := fun i => match i with | 0 => rawP b 0 | i + 1 => match ds[i]? with | some d => .d d | none => .any
def retD (fn : Func) (P : Program) (w0 : World) (S0 : Nat → Prop) (b : Nat) (bs : List Int) (R : D → Prop) (a : Act) (w' : World) : Prop :=
  a.defers = [] ∧ ∃ v, (results fn a.tmps).run P w' = .ok v w' ∧ ∃ r S', R r ∧ RD S' w' r v ∧ CurW S' w' b bs ∧ (∀ b, S0 b → S' b) ∧ (∀ b, S' b → b < w'.heap.size ∧ (S0 b ∨ w0.heap.size ≤ b)) ∧ Pres (fun c => c = b) w0 w'
def retDQ (fn : Func) (P : Program) (w0 : World) (S0 : Nat → Prop) (b : Nat) (bs : List Int) (R : D → Prop) : AQ := fun e a w => ends e = true ∧ retD fn P w0 S0 b bs R a w
theorem drel {b : Nat} {ds : List D} {xs : List Value} {fn : Func} (hn : fn.ntmps = n) (hlen : ds.length + 1 ≤ n) (hS : ∀ c, S c → c < w.heap.size) (hd : All2 (RD S w) ds xs) :
    Rel ⟨w, fun _ => False, S⟩ n (frD b ds) [] { tmps := (Value.pointer (some ⟨b, 0, none⟩) :: xs).toArray ++ Array.replicate (fn.ntmps - (Value.pointer (some ⟨b, 0, none⟩) :: xs).toArray.size) undef, defers := [] } w (fun _ => none) S := by
  have hxl : xs.length = ds.length := by
    induction hd with
    | nil => rfl
    | cons _ _ ih => simp [ih (by simp at hlen; omega)]
  have hget : ∀ (ds : List D) (xs : List Value), All2 (RD S w) ds xs → ∀ (i : Nat) (d : D), ds[i]? = some d → ∃ x : Value, xs[i]? = some x ∧ RD S w d x := by
    intro ds xs h
    induction h with
    | nil => intro i d h; simp at h
    | cons h1 _ ih =>
      intro i d hi
      cases i with
      | zero => simp at hi; subst hi; exact ⟨_, rfl, h1⟩
      | succ i => simp at hi; simpa using ih i d hi
  refine ⟨rfl, ?_, fun i => ?_, ⟨?_, ?_, ?_, hS, fun _ _ => rfl, fun i bx q hi => by simp at hi⟩, ?_, fun b hb => .inl hb, fun b hb => hb, Pres.refl _ _⟩
  · simp; omega
  · cases i with
    | zero =>
      have : ((Value.pointer (some ⟨b, 0, none⟩) :: xs).toArray ++ Array.replicate (fn.ntmps - (Value.pointer (some ⟨b, 0, none⟩) :: xs).toArray.size) undef).getD 0 undef = Value.pointer (some ⟨b, 0, none⟩) := by
        rw [Array.getD_eq_getD_getElem?, Array.getElem?_append_left (by simp)]; rfl
      rw [this]
      exact VR_c.2 ⟨rfl, rfl⟩
    | succ i =>
      show VR _ _ _ (match ds[i]? with | some d => V.d d | none => .any) _
      cases e : ds[i]? with
      | none => exact VR_any ..
      | some d =>
        obtain ⟨x, hx, hrd⟩ := hget ds xs hd i d e
        have : ((Value.pointer (some ⟨b, 0, none⟩) :: xs).toArray ++ Array.replicate (fn.ntmps - (Value.pointer (some ⟨b, 0, none⟩) :: xs).toArray.size) undef).getD (i + 1) undef = x := by
          have hi := lt_of_get hx
          rw [Array.getD_eq_getD_getElem?, Array.getElem?_append_left (by simpa using hi), List.getElem?_toArray, List.getElem?_cons_succ, hx]
          rfl
        simp only
        rw [this]
        exact VR0_of_RD hrd
  · intro i b h; simp at h
  · intro i j b bx bx' c c' h; simp at h
  · intro i bx b c h; simp at h
  · intro i bx b c h; simp at h
theorem DCall_of {k : FuncId} {fn : Func} {c : Code} {ds : List D} {R : D → Prop} (hf : P.funcs[k]? = some fn) (hb : fn.body = some c) (hn : fn.ntmps = n) (hlen : ds.length + 1 ≤ n)
    (h : ∀ C0 b bs, (∀ c, ¬ C0.Dm c) → bs.length ≤ lim → CT P C0 → CurC C0 b bs → AC P C0 n c (retDQ fn P C0.w0 C0.S0 b bs R) (frD b ds) []) : DCall P k ds R := by
  intro w S b bs xs hS hl hT hcu hd
  refine calls_of_wp hf hb ?_
  let C : Cx := ⟨w, fun _ => False, S⟩
  refine wp_mono (h C b bs (fun _ h => h) hl (CT.start hT fun _ _ h => h) ⟨fun h => h, hcu, fun c hc => ⟨hS c hc, fun h => h⟩⟩ _ w _ S (drel hn hlen hS hd)) ?_
  rintro e a w' ⟨hend, h1, v, h2, r, S', h3, h4, h5, h6, h7, h8⟩
  have fin : a.defers = [] ∧ ∃ v, (results fn a.tmps).run P w' = .ok v w' ∧ ∃ x r S', Ending.returned v = .returned x ∧ R r ∧ RD S' w' r x ∧ CurW S' w' b bs ∧ (∀ b, S b → S' b) ∧ (∀ b, S' b → b < w'.heap.size ∧ (S b ∨ w.heap.size ≤ b)) ∧ Pres (fun c => c = b) w w' := ⟨h1, v, h2, v, r, S', rfl, h3, h4, h5, h6, h7, h8⟩
  cases e with
  | normal => exact fin
  | ret => exact fin
  | _ => cases hend
theorem retd_ok {C0 : Cx} {fn : Func} {b : Nat} {bs : List Int} {R : D → Prop} {v : V} {r : D} (hM : Mk C0 [b] C) (hcu : CurC C b bs) (hdm : ∀ c, ¬ C0.Dm c) (hrv : RetV P f L fn.results.toList [v]) (hrd : Reads L (fun _ => True) v r) (hR : R r) : Fin C n (retDQ fn P C0.w0 C0.S0 b bs R .ret) f L := by
  intro a w' β' S' hr
  refine ⟨rfl, hr.df, ?_⟩
  obtain ⟨ys, hy, hall⟩ := RetV_run (P := P) hr hrv
  have hrun := results_run (fn := fn) hy
  rw [tupV_eq] at hrun
  obtain ⟨h1, h2⟩ := hcu.now hr
  cases hall with
  | cons h3 h4 =>
    cases h4
    rename_i y
    let S2 : Nat → Prop := fun c => S' c ∨ ∃ i bx cc, L[i]? = some (some bx) ∧ β' i = some (some (c, cc))
    have hsz := hM.pres.size
    have hsz2 := hr.pres.size
    have hne : v ≠ .any := by rintro rfl; cases hrd
    have hy1 : RD S2 w' r y := by
      rcases h3 with h3 | ⟨h3, h5⟩
      · exact absurd h3 hne
      · exact ⟨Reads_sound hr.hp (fun b h => .inl h) (fun i bx b c _ hL hb => .inr ⟨i, bx, c, hL, hb⟩) hrd _ h3, by rw [← Reads_isAgg hrd]; exact h5⟩
    have hcb : ∀ c, S2 c → c ≠ b := by
      rintro c (hc | ⟨i, bx, cc, hL, hb⟩) rfl
      · exact h1.1 hc
      · exact h2 i bx cc hL hb
    refine ⟨y, hrun, r, S2, hR, hy1, h1.later (fun hb => hcb b hb rfl) (fun c hc => .inl hc) (fun _ _ => rfl) rfl, fun c hc => .inl (hr.s0 c (hM.s0 c hc)), fun c hc => ?_, ?_⟩
    · rcases hc with hc | ⟨i, bx, cc, hL, hb⟩
      · refine ⟨hr.hp.fz c hc, ?_⟩
        rcases hr.fz c hc with k | k | k
        · rcases hM.fz c k with k | k | k
          · exact .inl k
          · exact .inr k
          · exact absurd k (hdm c)
        · exact .inr (by omega)
        · rcases hM.dm c k with k | k
          · exact absurd k (hdm c)
          · exact .inr k
      · refine ⟨(hr.hp.bx i bx hL).lt hb, .inr ?_⟩
        rcases hr.own i bx c cc hL hb with k | k
        · rcases hM.dm c k with k | k
          · exact absurd k (hdm c)
          · exact k
        · omega
    · refine ⟨hr.pres.os.trans hM.pres.os, hr.pres.tape.trans hM.pres.tape, hr.pres.output.trans hM.pres.output, Nat.le_trans hsz hsz2, fun c hc hd => ?_⟩
      rw [hr.pres.block c (by omega) fun h => by
        rcases hM.dm c h with k | k
        · exact hdm c k
        · omega]
      exact hM.pres.block c hc fun h => h.elim (hdm c) fun h => hd (List.mem_singleton.1 h)
/-! ### Functions that draw a list of their own -/
def DLCall (P : Program) (k : FuncId) (ds : List D) (e : TypeId) (l : Lay) (R : List D → Prop) : Prop :=
  ∀ (w : World) (S : Nat → Prop) (b : Nat) (bs : List Int) (xs : List Value), (∀ b, S b → b < w.heap.size) → bs.length ≤ lim → Tab P S w → CurW S w b bs → All2 (RD S w) ds xs →
    Calls P k (Value.pointer (some ⟨b, 0, none⟩) :: xs).toArray w fun en w' => ∃ x ys S' o, en = .returned x ∧ R ys ∧ LB S' w' e l ys x o ∧ (∀ b2 c, o = some (b2, c) → w.heap.size ≤ b2) ∧ CurW S' w' b bs ∧ (∀ b, S b → S' b) ∧ (∀ b, S' b → b < w'.heap.size ∧ (S b ∨ w.heap.size ≤ b)) ∧ Pres (fun c => c = b) w w'
def retDLQ (fn : Func) (P : Program) (w0 : World) (S0 : Nat → Prop) (b : Nat) (bs : List Int) (e : TypeId) (l : Lay) (R : List D → Prop) : AQ := fun en a w' => ends en = true ∧ a.defers = [] ∧ ∃ v, (results fn a.tmps).run P w' = .ok v w' ∧ ∃ ys S' o, R ys ∧ LB S' w' e l ys v o ∧ (∀ b2 c, o = some (b2, c) → w0.heap.size ≤ b2) ∧ CurW S' w' b bs ∧ (∀ b, S0 b → S' b) ∧ (∀ b, S' b → b < w'.heap.size ∧ (S0 b ∨ w0.heap.size ≤ b)) ∧ Pres (fun c => c = b) w0 w'
theorem DLCall_of {k : FuncId} {fn : Func} {c : Code} {ds : List D} {e : TypeId} {l : Lay} {R : List D → Prop} (hf : P.funcs[k]? = some fn) (hb : fn.body = some c) (hn : fn.ntmps = n) (hlen : ds.length + 1 ≤ n)
    (h : ∀ C0 b bs, (∀ c, ¬ C0.Dm c) → bs.length ≤ lim → CT P C0 → CurC C0 b bs → AC P C0 n c (retDLQ fn P C0.w0 C0.S0 b bs e l R) (frD b ds) []) : DLCall P k ds e l R := by
  intro w S b bs xs hS hl hT hcu hd
  refine calls_of_wp hf hb ?_
  let C : Cx := ⟨w, fun _ => False, S⟩
  refine wp_mono (h C b bs (fun _ h => h) hl (CT.start hT fun _ _ h => h) ⟨fun h => h, hcu, fun c hc => ⟨hS c hc, fun h => h⟩⟩ _ w _ S (drel hn hlen hS hd)) ?_
  rintro en a w' ⟨hend, h1, v, h2, ys, S', o, h3, h4, h5, h6, h7, h8, h9⟩
  have fin : a.defers = [] ∧ ∃ v, (results fn a.tmps).run P w' = .ok v w' ∧ ∃ x ys S' o, Ending.returned v = .returned x ∧ R ys ∧ LB S' w' e l ys x o ∧ (∀ b2 c, o = some (b2, c) → w.heap.size ≤ b2) ∧ CurW S' w' b bs ∧ (∀ b, S b → S' b) ∧ (∀ b, S' b → b < w'.heap.size ∧ (S b ∨ w.heap.size ≤ b)) ∧ Pres (fun c => c = b) w w' := ⟨h1, v, h2, v, ys, S', o, rfl, h3, h4, h5, h6, h7, h8, h9⟩
  cases en with
  | normal => exact fin
  | ret => exact fin
  | _ => cases hend
theorem retdl_ok {C0 : Cx} {fn : Func} {b : Nat} {bs : List Int} {e : TypeId} {l : Lay} {R : List D → Prop} {ys : List D} {j m : Nat} {bx : Box} (hM : Mk C0 [b] C) (hcu : CurC C b bs) (hdm : ∀ c, ¬ C0.Dm c) (hrv : RetV P f L fn.results.toList [.ref l j 0 m]) (hL : L[j]? = some (some bx)) (hbx : bx = ⟨e, l, ys.map V.d⟩) (hm : ys.length = m) (hR : R ys) : Fin C n (retDLQ fn P C0.w0 C0.S0 b bs e l R .ret) f L := by
  intro a w' β' S' hr
  subst hbx; subst hm
  refine ⟨rfl, hr.df, ?_⟩
  obtain ⟨vs, hy, hall⟩ := RetV_run (P := P) hr hrv
  have hrun := results_run (fn := fn) hy
  rw [tupV_eq] at hrun
  obtain ⟨h1, h2⟩ := hcu.now hr
  have hsz := hM.pres.size
  have hsz2 := hr.pres.size
  cases hall with
  | cons h3 h4 =>
    cases h4
    rename_i y
    have hbj := hr.hp.bx j _ hL
    obtain ⟨o, ho⟩ : ∃ o, β' j = some o := by
      rcases hbj.2 with ⟨q, _⟩ | ⟨b', C', cur, ds, q, _⟩
      · exact ⟨_, q⟩
      · exact ⟨_, q⟩
    have hag : y.cells.toList = [y] := by
      rcases h3 with h3 | ⟨h3, h5⟩
      · cases h3
      · have hx : isAggV y = false := h5.symm
        cases y <;> first | rfl | simp [isAggV] at hx
    have hvc : VC β' S' w' (.ref l j 0 ys.length) [y] := by
      rcases h3 with h3 | ⟨h3, h5⟩
      · cases h3
      · rw [hag] at h3; exact h3
    refine ⟨y, hrun, ys, S', o, hR, ⟨BoxR_name hbj (by simp [β1, ho]), VC_name hvc (by simp [β1, ho]), fun b2 c hb2 => hr.hp.own j _ b2 c hL (by rw [ho, hb2])⟩, fun b2 c hb2 => ?_, h1, fun c hc => hr.s0 c (hM.s0 c hc), fun c hc => ⟨hr.hp.fz c hc, ?_⟩, ?_⟩
    · rcases hr.own j _ b2 c hL (by rw [ho, hb2]) with k | k
      · rcases hM.dm b2 k with k | k
        · exact absurd k (hdm b2)
        · exact k
      · omega
    · rcases hr.fz c hc with k | k | k
      · rcases hM.fz c k with k | k | k
        · exact .inl k
        · exact .inr k
        · exact absurd k (hdm c)
      · exact .inr (by omega)
      · rcases hM.dm c k with k | k
        · exact absurd k (hdm c)
        · exact .inr k
    · refine ⟨hr.pres.os.trans hM.pres.os, hr.pres.tape.trans hM.pres.tape, hr.pres.output.trans hM.pres.output, Nat.le_trans hsz hsz2, fun c hc hd => ?_⟩
      rw [hr.pres.block c (by omega) fun h => by
        rcases hM.dm c h with k | k
        · exact hdm c k
        · omega]
      exact hM.pres.block c hc fun h => h.elim (hdm c) fun h => hd (List.mem_singleton.1 h)
/-- A box more, over a block that stands apart. -/
theorem Rel.addbox {bx : Box} {o : Option (Nat × Nat)} (h : Rel C n f L a w β S) (hna : bx.ty.ad = none) (hbx : BoxR (setβ β L.length o) S w L.length bx) (hS : ∀ b c, o = some (b, c) → ¬ S b) (hne : ∀ b c, o = some (b, c) → ∀ i bx c', L[i]? = some (some bx) → β i ≠ some (some (b, c'))) (how : ∀ b c, o = some (b, c) → C.Dm b ∨ C.w0.heap.size ≤ b) :
    Rel C n f (L ++ [some bx]) a w (setβ β L.length o) S := by
  have lat : Later β S w (setβ β L.length o) S w := later_new (h.hp.un _ (Nat.le_refl _)) fun _ _ => rfl
  have cases_ : ∀ i b, (L ++ [some bx])[i]? = some (some b) → (i < L.length ∧ L[i]? = some (some b)) ∨ (i = L.length ∧ bx = b) := fun i b hi => by
    rcases get_snoc _ _ _ _ hi with h1 | ⟨h1, h2⟩
    · exact .inl h1
    · exact .inr ⟨h1, by injection h2⟩
  refine h.later lat ⟨?_, ?_, ?_, h.hp.fz, ?_, ?_⟩ ?_ h.fz h.pres
  · intro i b hi
    rcases cases_ i b hi with ⟨h1, h2⟩ | ⟨rfl, rfl⟩
    · exact BoxR_later lat (fun _ _ _ => rfl) (h.hp.bx i b h2)
    · exact hbx
  · intro i j b bx1 bx2 c c' hi hj hbi hbj
    rcases cases_ i bx1 hi with ⟨h1, h2⟩ | ⟨rfl, rfl⟩ <;> rcases cases_ j bx2 hj with ⟨k1, k2⟩ | ⟨rfl, rfl⟩
    · rw [setβ_ne _ _ (by omega)] at hbi hbj
      exact h.hp.inj i j b bx1 bx2 c c' h2 k2 hbi hbj
    · rw [setβ_ne _ _ (by omega)] at hbi
      rw [setβ_self] at hbj
      injection hbj with hbj
      exact absurd hbi (hne b c' hbj i bx1 c h2)
    · rw [setβ_ne _ _ (by omega)] at hbj
      rw [setβ_self] at hbi
      injection hbi with hbi
      exact absurd hbj (hne b c hbi j bx2 c' k2)
    · rfl
  · intro i bx1 b c hi hb
    rcases cases_ i bx1 hi with ⟨h1, h2⟩ | ⟨rfl, rfl⟩
    · rw [setβ_ne _ _ (by omega)] at hb
      exact h.hp.own i bx1 b c h2 hb
    · rw [setβ_self] at hb
      injection hb with hb
      exact hS b c hb
  · intro i hi
    simp at hi
    rw [setβ_ne _ _ (by omega)]
    exact h.hp.un i (by omega)
  · intro i bx1 q hi hq
    rcases cases_ i bx1 hi with ⟨h1, h2⟩ | ⟨rfl, rfl⟩
    · rw [setβ_ne _ _ (by omega)]
      exact h.hp.ad i bx1 q h2 hq
    · rw [hna] at hq; cases hq
  · intro i bx1 b c hi hb
    rcases cases_ i bx1 hi with ⟨h1, h2⟩ | ⟨rfl, rfl⟩
    · rw [setβ_ne _ _ (by omega)] at hb
      exact h.own i bx1 b c h2 hb
    · rw [setβ_self] at hb
      injection hb with hb
      exact how b c hb
theorem AL_dlcall {b : Nat} {bs : List Int} (hT : CT P C) (hc : CurC C b bs) (hl : bs.length ≤ lim) {x y : Operand} {args : List Operand} {ts : Array TypeId} {k : FuncId} {ds : List D} {e : TypeId} {l : Lay} {R : List D → Prop} (hx : ev f x = .d (.fn k [])) (hcl : Callable P k) (hp : DLCall P k ds e l R) (hy : ev f y = rawP b 0) (ha : args.map (ev f) = ds.map V.d) (q : Nat) (hq : L.length = q) (hd : dstOk n dst = true)
    (h : ∀ C' ys, R ys → Mk C [b] C' → CurC C' b bs → CT P C' → AL P C' n ops rest Q (updo f dst (.ref l q 0 ys.length)) (L ++ [some ⟨e, l, ys.map V.d⟩])) : AL P C n ops (⟨dst, callV x (y :: args).toArray ts, ty, pos, after, none⟩ :: rest) Q f L := by
  subst hq
  intro a w β S hr
  refine wpList_plain rfl fun K hK => ?_
  have hv := rel_ev hr x
  rw [hx] at hv
  obtain ⟨cv, c1, c2⟩ := VR_fn hv
  have hcv : cv = [] := by
    have := (DCs_len _ _ _ c2).1
    simpa [Lay.lens] using this
  subst hcv
  unfold Oper.wp
  rw [call_run hcl c1, Oper.upon_enter]
  have heq : ((y :: args).toArray.map a.eval ++ ([] : List Value).toArray) = (Value.pointer (some ⟨b, 0, none⟩) :: args.map a.eval).toArray := by
    have := eval_c hr hy
    simp [this]
  rw [heq]
  obtain ⟨h1, h2⟩ := hc.now hr
  refine (hp w S b bs _ hr.hp.fz hl (hT.tab hr) h1 (args_RD hr args ds ha)).mono ?_
  rintro en w' ⟨z, ys, S', o, rfl, q1, q2, q2', q3, q4, q5, q6⟩
  obtain ⟨k1, k2, k3⟩ := hr.drawn hc q6 q4 q5 q3
  have hsz := hr.pres.size
  have hbl := h1.lt
  -- the wider context
  let C2 : Cx := ⟨w', fun c => boxBlk L β c ∨ ∃ cc, o = some (c, cc), S'⟩
  have r2 : Rel C2 n f L a w' β S' := ⟨k1.df, k1.sz, k1.fr, k1.hp, fun i bx c cc hL hb => .inl (.inl ⟨i, bx, cc, hL, hb⟩), fun c hc => .inl hc, fun c hc => hc, Pres.refl _ _⟩
  have hne : ∀ b2 c, o = some (b2, c) → ∀ i bx c', L[i]? = some (some bx) → β i ≠ some (some (b2, c')) := fun b2 c ho i bx c' hL hb => by
    have := (hr.hp.bx i bx hL).lt hb; have := q2' b2 c ho; omega
  have r3 := r2.addbox (bx := ⟨e, l, ys.map V.d⟩) (o := o) rfl (BoxR_name q2.bx (by rw [setβ_self]; simp [β1])) q2.own hne fun b2 c ho => .inl (.inr ⟨c, ho⟩)
  have hmk : Mk C [b] C2 := ⟨k2.pres, fun c hc => by
    rcases hc with hc | ⟨cc, ho⟩
    · exact k2.dm c hc
    · exact .inr (by have := q2' c cc ho; omega), k2.s0, k2.fz⟩
  have hcu : CurC C2 b bs := ⟨fun hd => by
    rcases hd with hd | ⟨cc, ho⟩
    · exact k3.dm hd
    · have := q2' b cc ho; omega, k3.cur, fun c hc => ⟨(k3.fz c hc).1, fun hd => by
    rcases hd with hd | ⟨cc, ho⟩
    · exact (k3.fz c hc).2 hd
    · exact q2.own c cc ho hc⟩⟩
  refine hK _ _ (h C2 ys q1 hmk hcu (hT.drawn hc hmk) _ _ _ _ (r3.puto (dstOk_spec hd) (VR_of_VR0 (.inr ⟨?_, ?_⟩))))
  · have hag : isAggV z = false := by
      have hvc := q2.vc
      simp only [VC] at hvc
      rcases hvc with ⟨_, q, _⟩ | ⟨_, _, _, q, _⟩ <;> (injection q with q; rw [q]; rfl)
    have hxc : z.cells.toList = [z] := by cases z <;> first | rfl | simp [isAggV] at hag
    rw [hxc]
    exact VC_name q2.vc (by rw [setβ_self]; simp [β1])
  · have hvc := q2.vc
    simp only [VC] at hvc
    rcases hvc with ⟨_, q, _⟩ | ⟨_, _, _, q, _⟩ <;> (injection q with q; rw [q]; rfl)
/-! ### The cursor as a box -/
abbrev LCU : Lay := .st [.one, .one, .one]
abbrev curBox (ty : TypeId) (bs : List Int) (i h : Int) : Box := ⟨ty, LCU, [.agg [.one, .one, .one] [.d (.sl .one (u8s bs)), i64 i, i64 h]]⟩
theorem cur_VCs {bs : List Int} {i h : Int} {ds : List Value} : VCs β S w (List.replicate 1 LCU) [.agg [.one, .one, .one] [.d (.sl .one (u8s bs)), i64 i, i64 h]] ds ↔ ∃ sv, ds = [sv, .int .i64 i, .int .i64 h] ∧ DC S w (.sl .one (u8s bs)) [sv] := by
  constructor
  · intro hh
    simp only [List.replicate_one, VCs, VC] at hh
    obtain ⟨f0, fr, c1, c2, e0, rfl, h3, ⟨g0, gr, d1, d2, k0, rfl, k3, k4, m0, mr, e1, e2, n0, rfl, n3, n4, o0, or_, p1, p2, q0, rfl, q3, q4, q5⟩, h5⟩ := hh
    injection e0 with e0 e0'
    injection k0 with k0 k0'
    subst k0; subst k0'
    injection n0 with n0 n0'
    subst n0; subst n0'
    injection q0 with q0 q0'
    subst q0
    simp only [DC] at n4 q4
    obtain ⟨hq5, rfl⟩ := q5
    obtain ⟨h50, rfl⟩ := h5
    have hl : d1.length = 1 := k3
    match d1, hl with
    | [sv], _ => exact ⟨sv, by rw [n4.1, q4.1]; simp, k4⟩
  · rintro ⟨sv, rfl, hd⟩
    simp only [List.replicate_one, VCs, VC]
    refine ⟨LCU, [], [sv, .int .i64 i, .int .i64 h], [], rfl, by simp, rfl, ⟨.one, [.one, .one], [sv], [.int .i64 i, .int .i64 h], rfl, rfl, rfl, hd, .one, [.one], [.int .i64 i], [.int .i64 h], rfl, rfl, rfl, ?_, .one, [], [.int .i64 h], [], rfl, rfl, rfl, ?_, rfl, rfl⟩, rfl, rfl⟩
    · simp [DC, Value.scalar]
    · simp [DC, Value.scalar]
theorem BoxR_cur {bs : List Int} {ii h : Int} {ty : TypeId} {b Cp : Nat} (hβ : β i = some (some (b, Cp))) (hb : BoxR β S w i (curBox ty bs ii h)) : ∃ (cu : List Value) (sv : Value), w.heap[b]? = some (.cells cu.toArray ty (0, 0)) ∧ cu.length = Cp * 3 ∧ 1 ≤ Cp ∧ Cp ≤ maxLen ∧ cu[0]? = some sv ∧ cu[1]? = some (.int .i64 ii) ∧ cu[2]? = some (.int .i64 h) ∧ DC S w (.sl .one (u8s bs)) [sv] := by
  obtain ⟨_, k⟩ := hb
  rcases k with ⟨k, _⟩ | ⟨b', Cp', cur, ds, q1, q2, q3, q4, q5, q6⟩
  · rw [hβ] at k; cases k
  · rw [hβ] at q1
    injection q1 with q1; injection q1 with q1; injection q1 with q1 q1'
    subst q1; subst q1'
    obtain ⟨sv, rfl, hd⟩ := cur_VCs.1 q5
    refine ⟨cur.toList, sv, by simpa using q2, by rw [Array.length_toList, show cur.size = Cp * LCU.len from q3]; rfl, q4.1, q4.2, ?_, ?_, ?_, hd⟩
    · simpa using q6 0 sv rfl
    · simpa using q6 1 _ rfl
    · simpa using q6 2 _ rfl
/-- A function of the cursor as a box is one that draws. -/
theorem DCall_of_box {k : FuncId} {ds : List D} {A : Type} {R : D → Prop} {Rq : List Int → A → Int → Int → Prop} {res : A → D}
    (h : ∀ (bs : List Int) (ty : TypeId) (i h : Int), bs.length ≤ lim → 0 ≤ i → i ≤ bs.length → HCallR P k [] (.ptr LCU 0 0 [] :: ds.map V.d) [curBox ty bs i h] 1 (fun q : A × Int × Int => Rq bs q.1 q.2.1 q.2.2) (fun q => [.d (res q.1)]) (fun q => [curBox ty bs q.2.1 q.2.2]))
    (hR : ∀ bs q i h, Rq bs q i h → R (res q) ∧ 0 ≤ i ∧ i ≤ (bs.length : Int)) : DCall P k ds R := by
  intro w S b bs xs hS hl hT hcu hd
  obtain ⟨hnS, cu, ty, sv, i, hh, Cp, h1, g1, g2, g3, h2, h3, h4, h5, h6, h7⟩ := hcu
  let β : Beta := fun j => if j = 0 then some (some (b, Cp)) else none
  have hin : ∀ c, inBk [curBox ty bs i hh] β c ↔ c = b := by
    intro c
    constructor
    · rintro ⟨j, bx, cc, e1, e2⟩
      have : j = 0 := by have := lt_of_get e1; simpa using this
      subst this
      simp only [β, if_true] at e2
      injection e2 with e2; injection e2 with e2; injection e2 with e2 _
      exact e2.symm
    · rintro rfl
      exact ⟨0, _, Cp, rfl, by simp [β]⟩
  have hheap : HeapR β S w (someL [curBox ty bs i hh]) := by
    have only : ∀ (j : Nat) (bx : Box), (someL [curBox ty bs i hh])[j]? = some (some bx) → j = 0 ∧ bx = curBox ty bs i hh := fun j bx hj => by
      have e1 := someL_get hj
      have : j = 0 := by have := lt_of_get e1; simpa using this
      subst this
      simp at e1
      exact ⟨rfl, e1.symm⟩
    refine ⟨fun j bx hj => ?_, fun j j' c bx bx' cc cc' hj hj' _ _ => ?_, fun j bx c cc hj hb => ?_, hS, fun j hj => ?_, fun j bx q hj hq => ?_⟩
    · obtain ⟨rfl, rfl⟩ := only j bx hj
      refine ⟨by simp only [List.length_singleton, lim]; omega, .inr ⟨b, Cp, cu.toArray, [sv, .int .i64 i, .int .i64 hh], by simp [β], h1, by rw [List.size_toArray, g1]; rfl, ⟨g2, g3⟩, cur_VCs.2 ⟨sv, rfl, h7⟩, ?_⟩⟩
      intro j x hx
      match j, hx with
      | 0, hx => simp at hx; subst hx; simpa using h2
      | 1, hx => simp at hx; subst hx; simpa using h3
      | 2, hx => simp at hx; subst hx; simpa using h4
      | j + 3, hx => simp at hx
    · rw [(only j bx hj).1, (only j' bx' hj').1]
    · obtain ⟨rfl, rfl⟩ := only j bx hj
      simp only [β, if_true] at hb
      injection hb with hb; injection hb with hb; injection hb with hb _
      exact hb ▸ hnS
    · simp only [someL, List.map_cons, List.map_nil, List.length_singleton] at hj
      simp only [β]
      rw [if_neg (by omega)]
    · obtain ⟨rfl, rfl⟩ := only j bx hj
      cases hq
  have hargs : All2 (VR0 β S w) (.ptr LCU 0 0 [] :: ds.map V.d) (Value.pointer (some ⟨b, 0, none⟩) :: xs) := by
    refine .cons (.inr ⟨?_, rfl⟩) ?_
    · simp only [VC]
      exact ⟨b, Cp, 0, LCU, by simp [β], rfl, by simp [Value.cells]⟩
    · have : ∀ {ds : List D} {xs : List Value}, All2 (RD S w) ds xs → All2 (VR0 β S w) (ds.map V.d) xs := by
        intro ds xs h
        induction h with
        | nil => exact .nil
        | cons h1 _ ih => exact .cons (.inr h1) ih
      exact this hd
  refine (h bs ty i hh hl h5 h6 w S β _ hT (fun p hp => by cases hp) hheap hargs).mono ?_
  rintro en w' ⟨ys, ⟨q, i2, h2'⟩, β', S', rfl, hq, k1, k2, k3, k4, k5, k6⟩
  obtain ⟨r1, r2, r3⟩ := hR bs q i2 h2' hq
  have hβ' : β' 0 = some (some (b, Cp)) := by rw [k3 0 (by omega)]; simp [β]
  obtain ⟨cu', sv', m1, m2, m3, m4, m5, m6, m7, m8⟩ := BoxR_cur hβ' (k2.bx 0 _ rfl)
  have hnS' : ¬ S' b := k2.own 0 _ b Cp rfl hβ'
  cases k1 with
  | cons v1 v2 =>
    cases v2
    rename_i y
    refine ⟨y, res q, S', rfl, r1, ?_, ⟨hnS', cu', ty, sv', i2, h2', Cp, m1, m2, m3, m4, m5, m6, m7, r2, r3, m8⟩, k4, fun c hc => ⟨k2.fz c hc, ?_⟩, ⟨k6.os, k6.tape, k6.output, k6.size, fun c hc hd => k6.block c hc fun h => hd ((hin c).1 h)⟩⟩
    · exact RD_of_VR0 v1
    · rcases k5 c hc with h | h | h
      · exact .inl h
      · exact .inr h
      · exact absurd ((hin c).1 h ▸ hc) hnS'
/-! ### What makes a cursor -/
def retNQ (fn : Func) (P : Program) (w0 : World) (S0 : Nat → Prop) (bs : List Int) : AQ := fun e a w' => ends e = true ∧ a.defers = [] ∧ ∃ v, (results fn a.tmps).run P w' = .ok v w' ∧ ∃ b S', v = .pointer (some ⟨b, 0, none⟩) ∧ w0.heap.size ≤ b ∧ CurW S' w' b bs ∧ (∀ b, S0 b → S' b) ∧ (∀ b, S' b → b < w'.heap.size ∧ (S0 b ∨ w0.heap.size ≤ b)) ∧ Pres (fun _ => False) w0 w'
theorem newcur_ok {fn : Func} {bs : List Int} {ii h : Int} {ty : TypeId} (hdm : ∀ c, ¬ C.Dm c) (hrv : RetV P f L fn.results.toList [.ptr LCU i 0 []]) (hL : L[i]? = some (some (curBox ty bs ii h))) (h0 : 0 ≤ ii) (h1 : ii ≤ bs.length) : Fin C n (retNQ fn P C.w0 C.S0 bs .ret) f L := by
  intro a w' β' S' hr
  refine ⟨rfl, hr.df, ?_⟩
  obtain ⟨ys, hy, hall⟩ := RetV_run (P := P) hr hrv
  have hrun := results_run (fn := fn) hy
  rw [tupV_eq] at hrun
  cases hall with
  | cons h3 h4 =>
    cases h4
    rename_i y
    obtain ⟨b, Cp, o, l', q1, q2, q3⟩ := VR_ptr (VR_of_VR0 h3)
    have q2 : some ((0 : Nat), LCU) = some (o, l') := q2
    injection q2 with q2; injection q2 with q2 _
    subst q2
    obtain ⟨cu, sv, m1, m2, m3, m4, m5, m6, m7, m8⟩ := BoxR_cur q1 (hr.hp.bx i _ hL)
    have hb := (hr.own i _ b Cp hL q1).resolve_left (hdm b)
    refine ⟨y, hrun, b, S', by simpa using q3, hb, ⟨hr.hp.own i _ b Cp hL q1, cu, ty, sv, ii, h, Cp, m1, m2, m3, m4, m5, m6, m7, h0, h1, m8⟩, hr.s0, fun c hc => ⟨hr.hp.fz c hc, ?_⟩, ⟨hr.pres.os, hr.pres.tape, hr.pres.output, hr.pres.size, fun c hc hd => hr.pres.block c hc (hdm c)⟩⟩
    rcases hr.fz c hc with k | k | k
    · exact .inl k
    · exact .inr k
    · exact absurd k (hdm c)
theorem NewCur_of {k : FuncId} {fn : Func} {c : Code} (hf : P.funcs[k]? = some fn) (hb : fn.body = some c) (hn : fn.ntmps = n) (hlen : 1 ≤ n) (h : ∀ C bs, (∀ b, ¬ C.Dm b) → CT P C → AC P C n c (retNQ fn P C.w0 C.S0 bs) (fr0 [.sl .one (u8s bs)]) []) : NewCur P k := by
  intro w S bs xs hS hT hd
  refine calls_of_wp hf hb ?_
  let C : Cx := ⟨w, fun _ => False, S⟩
  cases hd with
  | cons hd1 hd2 =>
    cases hd2
    rename_i x
    have hrel : Rel C n (fr0 [.sl .one (u8s bs)]) [] { tmps := [x].toArray ++ Array.replicate (fn.ntmps - [x].toArray.size) undef, defers := [] } w (fun _ => none) S := by
      refine ⟨rfl, ?_, fun i => ?_, ⟨?_, ?_, ?_, hS, fun _ _ => rfl, fun i bx q hi => by simp at hi⟩, ?_, fun b hb => .inl hb, fun b hb => hb, Pres.refl _ _⟩
      · simp; omega
      · match i with
        | 0 =>
          have : ([x].toArray ++ Array.replicate (fn.ntmps - [x].toArray.size) undef).getD 0 undef = x := by
            rw [Array.getD_eq_getD_getElem?, Array.getElem?_append_left (by simp)]; rfl
          rw [this]
          exact VR0_of_RD hd1
        | i + 1 =>
          show VR _ _ _ .any _
          exact VR_any ..
      · intro i b h; simp at h
      · intro i j b bx bx' c c' h; simp at h
      · intro i bx b c h; simp at h
      · intro i bx b c h; simp at h
    refine wp_mono (h C bs (fun _ h => h) (CT.start hT fun _ _ h => h) _ w _ S hrel) ?_
    rintro e a w' ⟨hend, h1, v, h2, b, S', rfl, h3⟩
    have fin : a.defers = [] ∧ ∃ v, (results fn a.tmps).run P w' = .ok v w' ∧ ∃ b S', Ending.returned v = .returned (.pointer (some ⟨b, 0, none⟩)) ∧ w.heap.size ≤ b ∧ CurW S' w' b bs ∧ (∀ b, S b → S' b) ∧ (∀ b, S' b → b < w'.heap.size ∧ (S b ∨ w.heap.size ≤ b)) ∧ Pres (fun _ => False) w w' := ⟨h1, _, h2, b, S', rfl, h3⟩
    cases e with
    | normal => exact fin
    | ret => exact fin
    | _ => cases hend
/-- The last eight bits. -/
theorem and255 (u : Int) : 0 ≤ IntKind.i64.wrap (BitVec.ofInt IntKind.i64.bits u &&& BitVec.ofInt IntKind.i64.bits 255).toNat ∧ IntKind.i64.wrap (BitVec.ofInt IntKind.i64.bits u &&& BitVec.ofInt IntKind.i64.bits 255).toNat ≤ 255 := by
  have h : (BitVec.ofInt IntKind.i64.bits u &&& BitVec.ofInt IntKind.i64.bits 255).toNat ≤ 255 := by
    rw [BitVec.toNat_and]
    exact Nat.le_trans Nat.and_le_right (by decide)
  rw [wrap_id (by omega) (by omega)]
  omega
end
end Go.Eng

/- Functions that hand out a list of data with its block. -/
import Derived.Test.YtjhdkjacfclipaaCd
import Derived.Test.YtjhdkjacfclipaaGd
set_option linter.unusedVariables false
set_option linter.unusedSimpArgs false
namespace Go.Eng
def LCall (P : Program) (k : FuncId) (ds : List D) (e : TypeId) (l : Lay) (xs : List D) (sc : List Value) : Prop :=
  ∀ (w : World) (S : Nat → Prop) (vs : List Value), (∀ b, S b → b < w.heap.size) → Tab P S w → All2 (RD S w) ds vs →
    Calls P k vs.toArray w fun en w' => ∃ y S' o, en = .returned (tupV (y :: sc)) ∧ LB S' w' e l xs y o ∧ (∀ b c, o = some (b, c) → w.heap.size ≤ b) ∧ (∀ b, S b → S' b) ∧ (∀ b, S' b → b < w'.heap.size ∧ (S b ∨ w.heap.size ≤ b)) ∧ Pres (fun _ => False) w w'
def retLQ (fn : Func) (P : Program) (w0 : World) (S0 : Nat → Prop) (e : TypeId) (l : Lay) (xs : List D) (sc : List Value) : AQ := fun en a w' => ends en = true ∧ a.defers = [] ∧ ∃ y S' o, (results fn a.tmps).run P w' = .ok (tupV (y :: sc)) w' ∧ LB S' w' e l xs y o ∧ (∀ b c, o = some (b, c) → w0.heap.size ≤ b) ∧ (∀ b, S0 b → S' b) ∧ (∀ b, S' b → b < w'.heap.size ∧ (S0 b ∨ w0.heap.size ≤ b)) ∧ Pres (fun _ => False) w0 w'
theorem LB.isSl {S : Nat → Prop} {w : World} {e : TypeId} {l : Lay} {xs : List D} {x : Value} {o : Option (Nat × Nat)} (h : LB S w e l xs x o) : x.cells.toList = [x] ∧ isAggV x = false := by
  have hvc := h.vc
  simp only [VC] at hvc
  rcases hvc with ⟨_, q, _⟩ | ⟨_, _, _, q, _⟩ <;> (injection q with q; rw [q]; exact ⟨rfl, rfl⟩)
theorem LB.rd {S : Nat → Prop} {w : World} {e : TypeId} {l : Lay} {xs : List D} {x : Value} {o : Option (Nat × Nat)} (h : LB S w e l xs x o) : RD (fun b => S b ∨ ∃ c, o = some (b, c)) w (.sl l xs) x := by
  obtain ⟨hc, ha⟩ := h.isSl
  refine ⟨?_, ha.symm⟩
  rw [hc]
  have hvc := h.vc
  obtain ⟨hl, hb⟩ := h.bx
  simp only [List.length_map] at hl
  simp only [VC, β1] at hvc
  simp only [DC]
  rcases hvc with ⟨e0, q, q0, q1⟩ | ⟨b, Cp, e0, q, q1⟩
  · exact ⟨none, 0, 0, q, q1.symm, Nat.le_refl _, Nat.zero_le _, .inl rfl⟩
  · rcases hb with ⟨e1, _⟩ | ⟨b', Cp', cur, ds, e1, e2, e3, e4, e5, e6⟩
    · simp only [β1, if_true] at e0 e1
      rw [e0] at e1; cases e1
    · have e1' := e0.symm.trans e1
      injection e1' with e1'; injection e1' with e1'; injection e1' with e1' e1''
      subst e1'; subst e1''
      refine ⟨some ⟨b, 0, none⟩, xs.length, Cp, by rw [q]; simp, rfl, by omega, hl, .inr ⟨b, 0, ds, rfl, .inr ?_, ?_, ?_⟩⟩
      · simp at e0
        exact ⟨Cp, e0⟩
      · have := (VCs_d xs (List.replicate xs.length l) ds).1 (by simpa using e5)
        exact DCs_later (fun _ h => .inl h) (fun _ _ => rfl) _ _ _ this
      · intro j x hx
        simp [World.cell?, e2, e6 j x hx]
section
variable {P : Program} {C : Cx} {n : Nat} {f : Fr} {L : Hp} {Q : AQ} {ops : Array Oper} {rest : List Oper} {dst : Option Tmp} {ty : TypeId} {pos : String} {after : Array Edge} {a : Act} {w w' : World} {β : Beta} {S S' : Nat → Prop} {i : Nat} {r : List Nat}
theorem LCall.pcall {k : FuncId} {ds : List D} {e : TypeId} {l : Lay} {xs : List D} {sc : List Value} (h : LCall P k ds e l xs sc) (hs : sc.all Value.scalar = true) : PCall P k ds (· = .sl l xs :: sc.map D.c) := fun w S vs hS hT hd =>
  (h w S vs hS hT hd).mono fun en w' ⟨y, S', o, h1, h2, h3, h4, h5, h6⟩ => by
    have hrd := h2.rd
    have hsc : ∀ (sc : List Value), sc.all Value.scalar = true → All2 (RD (fun b => S' b ∨ ∃ c, o = some (b, c)) w') (sc.map D.c) sc := by
      intro sc hs
      induction sc with
      | nil => exact .nil
      | cons x r ih =>
        simp only [List.all_cons, Bool.and_eq_true] at hs
        exact .cons ⟨by rw [cells_scalar hs.1]; unfold DC; exact ⟨rfl, hs.1⟩, by rw [isAgg_scalar hs.1]; rfl⟩ (ih hs.2)
    refine ⟨tupV (y :: sc), _, fun b => S' b ∨ ∃ c, o = some (b, c), h1, rfl, ?_, fun b hb => .inl (h4 b hb), ?_, h6⟩
    · cases sc with
      | nil => exact hrd
      | cons x r => exact ⟨y :: x :: r, rfl, .cons hrd (hsc _ hs)⟩
    · rintro b (hb | ⟨c, hb⟩)
      · exact h5 b hb
      · refine ⟨?_, .inr (h3 b c hb)⟩
        obtain ⟨_, hx⟩ := h2.bx
        rcases hx with ⟨e1, _⟩ | ⟨b', Cp', cur, ds, e1, e2, _⟩
        · simp [β1, hb] at e1
        · simp [β1, hb] at e1
          rw [e1.1]
          exact (Array.getElem?_eq_some_iff.1 e2).1
theorem LCall_of {k : FuncId} {fn : Func} {c : Code} {ds : List D} {e : TypeId} {l : Lay} {xs : List D} {sc : List Value} (hf : P.funcs[k]? = some fn) (hb : fn.body = some c) (hn : fn.ntmps = n) (hlen : ds.length ≤ n) (h : ∀ C, (∀ b, ¬ C.Dm b) → CT P C → AC P C n c (retLQ fn P C.w0 C.S0 e l xs sc) (fr0 ds) []) : LCall P k ds e l xs sc := by
  intro w S vs hS hT hd
  refine calls_of_wp hf hb ?_
  let C : Cx := ⟨w, fun _ => False, S⟩
  have hget : ∀ (ds : List D) (xs : List Value), All2 (RD S w) ds xs → ∀ (i : Nat) (d : D), ds[i]? = some d → ∃ x : Value, xs[i]? = some x ∧ RD S w d x := by
    intro ds xs h
    induction h with
    | nil => intro i d h; simp at h
    | cons h1 _ ih =>
      intro i d hi
      cases i with
      | zero => simp at hi; subst hi; exact ⟨_, rfl, h1⟩
      | succ i => simp at hi; simpa using ih i d hi
  have hxl : vs.length = ds.length := by
    clear h
    induction hd with
    | nil => rfl
    | cons _ _ ih => simp [ih (by simp at hlen; omega)]
  have hrel : Rel C n (fr0 ds) [] { tmps := vs.toArray ++ Array.replicate (fn.ntmps - vs.toArray.size) undef, defers := [] } w (fun _ => none) S := by
    refine ⟨rfl, ?_, fun i => ?_, ⟨?_, ?_, ?_, hS, fun _ _ => rfl, fun i bx q hi => by simp at hi⟩, ?_, fun b hb => .inl hb, fun b hb => hb, Pres.refl _ _⟩
    · simp; omega
    · show VR _ _ _ (match ds[i]? with | some d => V.d d | none => .any) _
      cases e : ds[i]? with
      | none => exact VR_any ..
      | some d =>
        obtain ⟨x, hx, hrd⟩ := hget ds vs hd i d e
        have : (vs.toArray ++ Array.replicate (fn.ntmps - vs.toArray.size) undef).getD i undef = x := by
          have hi := lt_of_get hx
          rw [Array.getD_eq_getD_getElem?, Array.getElem?_append_left (by simpa using hi), List.getElem?_toArray, hx]
          rfl
        simp only
        rw [this]
        exact VR0_of_RD hrd
    · intro i b h; simp at h
    · intro i j b bx bx' c c' h; simp at h
    · intro i bx b c h; simp at h
    · intro i bx b c h; simp at h
  refine wp_mono (h C (fun _ h => h) (CT.start hT fun _ _ h => h) _ w _ S hrel) ?_
  rintro en a w' ⟨hend, h1, y, S', o, h2, h3⟩
  have fin : a.defers = [] ∧ ∃ v, (results fn a.tmps).run P w' = .ok v w' ∧ ∃ y S' o, Ending.returned v = .returned (tupV (y :: sc)) ∧ LB S' w' e l xs y o ∧ (∀ b c, o = some (b, c) → w.heap.size ≤ b) ∧ (∀ b, S b → S' b) ∧ (∀ b, S' b → b < w'.heap.size ∧ (S b ∨ w.heap.size ≤ b)) ∧ Pres (fun _ => False) w w' := ⟨h1, _, h2, y, S', o, rfl, h3⟩
  cases en with
  | normal => exact fin
  | ret => exact fin
  | _ => cases hend
/-- The end: a list in a box, and scalars. -/
theorem retl_ok {fn : Func} {e : TypeId} {l : Lay} {xs ys : List D} {sc' : List Value} (sc : List Value) {j m : Nat} {bx : Box} (hdm : ∀ b, ¬ C.Dm b) (hrv : RetV P f L fn.results.toList (.ref l j 0 m :: sc.map fun x => V.d (.c x))) (hL : L[j]? = some (some bx)) (hbx : bx = ⟨e, l, ys.map V.d⟩) (hm : ys.length = m) (e1 : xs = ys) (e2 : sc' = sc) : Fin C n (retLQ fn P C.w0 C.S0 e l xs sc' .ret) f L := by
  intro a w' β' S' hr
  subst hbx; subst hm; subst e1; subst e2
  refine ⟨rfl, hr.df, ?_⟩
  obtain ⟨vs, hy, hall⟩ := RetV_run (P := P) hr hrv
  have hrun := results_run (fn := fn) hy
  rw [tupV_eq] at hrun
  cases hall with
  | cons h3 h4 =>
    rename_i y ys2
    have hys := sc_back _ _ h4
    subst hys
    have hbj := hr.hp.bx j _ hL
    obtain ⟨o, ho⟩ : ∃ o, β' j = some o := by
      rcases hbj.2 with ⟨q, _⟩ | ⟨b', C', cur, ds, q, _⟩
      · exact ⟨_, q⟩
      · exact ⟨_, q⟩
    have hag : y.cells.toList = [y] := by
      rcases h3 with h3 | ⟨h3, h5⟩
      · cases h3
      · have hx : isAggV y = false := h5.symm
        cases y <;> first | rfl | simp [isAggV] at hx
    have hvc : VC β' S' w' (.ref l j 0 xs.length) [y] := by
      rcases h3 with h3 | ⟨h3, h5⟩
      · cases h3
      · rw [hag] at h3; exact h3
    refine ⟨y, S', o, hrun, ⟨BoxR_name hbj (by simp [β1, ho]), VC_name hvc (by simp [β1, ho]), fun b2 c hb2 => hr.hp.own j _ b2 c hL (by rw [ho, hb2])⟩, fun b2 c hb2 => (hr.own j _ b2 c hL (by rw [ho, hb2])).resolve_left (hdm b2), hr.s0, fun c hc => ⟨hr.hp.fz c hc, ?_⟩, ⟨hr.pres.os, hr.pres.tape, hr.pres.output, hr.pres.size, fun c hc hd => hr.pres.block c hc (hdm c)⟩⟩
    rcases hr.fz c hc with k | k | k
    · exact .inl k
    · exact .inr k
    · exact absurd k (hdm c)
theorem retl_nil {fn : Func} {e : TypeId} {l : Lay} {xs : List D} {sc' : List Value} (sc : List Value) (hdm : ∀ b, ¬ C.Dm b) (hrv : RetV P f L fn.results.toList (nilsl :: sc.map fun x => V.d (.c x))) (e1 : xs = []) (e2 : sc' = sc) : Fin C n (retLQ fn P C.w0 C.S0 e l xs sc' .ret) f L := by
  intro a w' β' S' hr
  subst e1; subst e2
  refine ⟨rfl, hr.df, ?_⟩
  obtain ⟨vs, hy, hall⟩ := RetV_run (P := P) hr hrv
  have hrun := results_run (fn := fn) hy
  rw [tupV_eq] at hrun
  cases hall with
  | cons h3 h4 =>
    rename_i y ys2
    have hys := sc_back _ _ h4
    subst hys
    have hyn := (VR0_c.1 h3).1
    subst hyn
    refine ⟨_, S', none, hrun, ⟨⟨by simp, .inl ⟨by simp [β1], rfl⟩⟩, by simp [VC, β1], fun b c hb => (by cases hb)⟩, fun b c hb => (by cases hb), hr.s0, fun c hc => ⟨hr.hp.fz c hc, ?_⟩, ⟨hr.pres.os, hr.pres.tape, hr.pres.output, hr.pres.size, fun c hc hd => hr.pres.block c hc (hdm c)⟩⟩
    rcases hr.fz c hc with k | k | k
    · exact .inl k
    · exact .inr k
    · exact absurd k (hdm c)
theorem AL_llcall (hT : CT P C) {x : Operand} {args : Array Operand} {ts : Array TypeId} {k : FuncId} {ds : List D} {e : TypeId} {l : Lay} {xs : List D} {sc : List Value} (hx : ev f x = .d (.fn k [])) (hc : Callable P k) (hp : LCall P k ds e l xs sc) (ha : args.toList.map (ev f) = ds.map V.d) (q : Nat) (hq : L.length = q) (hs : sc.all Value.scalar = true) (hd : dstOk n dst = true)
    (h : AL P C n ops rest Q (updo f dst (retH (.ref l q 0 xs.length :: sc.map fun x => V.d (.c x)))) (L ++ [some ⟨e, l, xs.map V.d⟩])) : AL P C n ops (⟨dst, callV x args ts, ty, pos, after, none⟩ :: rest) Q f L := by
  subst hq
  intro a w β S hr
  refine wpList_plain rfl fun K hK => ?_
  have hv := rel_ev hr x
  rw [hx] at hv
  obtain ⟨cv, c1, c2⟩ := VR_fn hv
  have hcv : cv = [] := by
    have := (DCs_len _ _ _ c2).1
    simpa [Lay.lens] using this
  subst hcv
  unfold Oper.wp
  rw [call_run hc c1, Oper.upon_enter]
  have heq : (args.map a.eval ++ ([] : List Value).toArray) = (args.toList.map a.eval).toArray := by
    show args.map a.eval ++ #[] = _
    rw [Array.append_empty, ← Array.toList_map, Array.toArray_toList]
  rw [heq]
  refine (hp w S _ hr.hp.fz (hT.tab hr) (args_RD hr args.toList ds ha)).mono ?_
  rintro en w' ⟨y, S', o, rfl, q1, q2, q3, q4, q5⟩
  have hr' := hr.called q5 q3 q4
  have hne : ∀ b2 c, o = some (b2, c) → ∀ i bx c', L[i]? = some (some bx) → β i ≠ some (some (b2, c')) := fun b2 c ho i bx c' hL hb => by
    have := (hr.hp.bx i bx hL).lt hb; have := q2 b2 c ho; omega
  have r3 := hr'.addbox (bx := ⟨e, l, xs.map V.d⟩) (o := o) rfl (BoxR_name q1.bx (by rw [setβ_self]; simp [β1])) q1.own hne fun b2 c ho => .inr (by have := q2 b2 c ho; have := hr.pres.size; omega)
  obtain ⟨g1, g2⟩ := q1.isSl
  refine hK _ _ (h _ _ _ _ (r3.puto (dstOk_spec hd) (retH_VR (.cons (.inr ⟨?_, g2.symm⟩) (sc_VR0 sc hs)))))
  rw [g1]
  exact VC_name q1.vc (by rw [setβ_self]; simp [β1])
end
/-! ### Lists as terms -/
def pairB (t : T) : Bool := decide (t.kind = 4) && decide (t.name = nmDot) && decide (t.kids.length = 2)
theorem pairB_mk {t : T} (h : pairB t = true) : ∃ m a b, t = .mk 4 nmDot m [a, b] := by
  obtain ⟨k, s, m, ks⟩ := t
  simp only [pairB, Bool.and_eq_true] at h
  obtain ⟨⟨h1, h2⟩, h3⟩ := h
  obtain rfl : k = 4 := of_decide_eq_true h1
  obtain rfl : s = nmDot := of_decide_eq_true h2
  have h3 : ks.length = 2 := of_decide_eq_true h3
  match ks, h3 with
  | [a, b], _ => exact ⟨m, a, b, rfl⟩
inductive Its : T → List T → T → Prop
  | end_ {t : T} : pairB t = false → Its t [] t
  | pair {m : Int} {a b e : T} {r : List T} : Its b r e → Its (.mk 4 nmDot m [a, b]) (a :: r) e
theorem its_all : ∀ t : T, ∃ r e, Its t r e := by
  intro t
  induction t using T.ind with
  | h k s m ks ih =>
    cases h : pairB (.mk k s m ks) with
    | false => exact ⟨[], _, .end_ h⟩
    | true =>
      obtain ⟨m', a, b, e⟩ := pairB_mk h
      injection e with e1 e2 e3 e4
      subst e1; subst e2; subst e3; subst e4
      obtain ⟨r, e, hi⟩ := ih b (by simp)
      exact ⟨a :: r, e, .pair hi⟩
theorem Its.inv {t : T} {r : List T} {e : T} (h : Its t r e) : (pairB t = false → r = [] ∧ e = t) ∧ ∀ m a b, t = .mk 4 nmDot m [a, b] → ∃ r', r = a :: r' ∧ Its b r' e := by
  cases h with
  | end_ h => exact ⟨fun _ => ⟨rfl, rfl⟩, fun m a b e => by subst e; simp [pairB, T.kind, T.name, T.kids] at h⟩
  | pair h => exact ⟨fun h => by simp [pairB, T.kind, T.name, T.kids] at h, fun m a b e => by injection e with _ _ _ e; injection e with e1 e2; injection e2 with e2 _; subst e1; subst e2; exact ⟨_, rfl, h⟩⟩
def nilB (t : T) : Bool := decide (t.kind = 2) && decide (t.name = nmNil)
/-- What ItemsOf answers. -/
def Itm (t : T) (xs : List T) (b : Bool) : Prop := ∃ r e, Its t r e ∧ b = (okT t && nilB e) ∧ xs = if okT t && nilB e then r else []
theorem itm_all (t : T) : ∃ xs b, Itm t xs b := by
  obtain ⟨r, e, h⟩ := its_all t
  exact ⟨_, _, r, e, h, rfl, rfl⟩
theorem Its.bulk {t : T} {r : List T} {e : T} (h : Its t r e) : (r.length : Int) + bulkL r ≤ bulk t := by
  induction h with
  | end_ _ => simp [bulkL, bulk_nn]
  | pair h ih =>
    simp only [Go.Eng.bulk, bulkS_eq, bulkL, List.length_cons, List.length_nil]
    have : (nmDot.size : Int) = 1 := rfl
    omega
theorem Itm.bulk {t : T} {xs : List T} {b : Bool} (h : Itm t xs b) : (xs.length : Int) + bulkL xs ≤ Go.Eng.bulk t := by
  obtain ⟨r, e, h1, _, rfl⟩ := h
  split
  · exact h1.bulk
  · simp [bulkL, bulk_nn]
/-- A list, with another end. -/
def mkListE (e : T) : List T → T
  | [] => e
  | t :: r => .mk 4 nmDot 0 [t, mkListE e r]
theorem mkListE_nil : ∀ ks : List T, mkListE (atom0 nmNil) ks = mkList ks
  | [] => rfl
  | t :: r => by rw [mkListE, mkListE_nil r]; rfl
theorem mkListE_drop {e : T} {ks : List T} {j : Nat} {u : T} (h : ks[j]? = some u) : mkListE e (ks.drop j) = .mk 4 nmDot 0 [u, mkListE e (ks.drop (j + 1))] := by rw [drop_get h, mkListE]
theorem bulk_mkListE (e : T) : ∀ ks : List T, bulk (mkListE e ks) = bulk e + 3 * ks.length + bulkL ks
  | [] => by simp [mkListE, bulkL]
  | t :: r => by
    have := bulk_mkListE e r
    have h1 : (nmDot.size : Int) = 1 := rfl
    simp only [mkListE, bulk, bulkS_eq, bulkL, List.length_cons, List.length_nil, h1, this]
    omega
theorem okT_list {t : T} {r : List T} {e : T} (h : Its t r e) : ∀ {d : Int}, lright t d = true → nilB e = true → t = mkList r := by
  induction h with
  | end_ hp =>
    rename_i t
    intro d hw hn
    obtain ⟨k, s, m, ks⟩ := t
    simp only [nilB, Bool.and_eq_true] at hn
    obtain rfl : k = 2 := of_decide_eq_true hn.1
    obtain rfl : s = nmNil := of_decide_eq_true hn.2
    rcases (lright_wf hw).1 with ⟨h, _⟩ | ⟨_, h2, h3⟩ | ⟨h, _⟩ | ⟨h, _⟩
    · omega
    · first
        | (obtain ⟨h3, h4⟩ := h3; subst h2; subst h3; rfl)
        | (subst h2; subst h3; rfl)
        | simp_all [mkList]
    · omega
    · omega
  | pair hi ih =>
    intro d hw hn
    obtain ⟨h1, h2⟩ := lright_wf hw
    rw [mkList, ← ih (h2 _ (by simp)) hn]
    rcases h1 with ⟨h, _⟩ | ⟨h, _⟩ | ⟨h, _⟩ | ⟨_, h3⟩
    · omega
    · omega
    · omega
    · first
        | (subst h3; rfl)
        | (obtain ⟨h3, _⟩ := h3; subst h3; rfl)
        | simp_all
theorem Itm.list {t : T} {xs : List T} (h : Itm t xs true) : t = mkList xs := by
  obtain ⟨r, e, h1, h2, h3⟩ := h
  rw [← h2] at h3
  have h4 := h2.symm
  rw [Bool.and_eq_true] at h4
  rw [h3, if_pos rfl]
  exact okT_list h1 (okT_right h4.1) h4.2
theorem mkListE_app (x y : List T) : mkListE (mkList y) x = mkList (x ++ y) := by
  induction x with
  | nil => rfl
  | cons a r ih => rw [mkListE, ih]; rfl
abbrev term0 : T := .mk 0 ⟨#[]⟩ 0 []
/-- What JoinedLists answers. -/
def Jnd (a b : T) (x y : List T) (b1 b2 : Bool) (o : T) (k : Bool) : Prop := k = (b1 && b2 && okT (mkListE b x)) ∧ o = if k then mkListE b x else term0
theorem jnd_spec {b : T} {x y : List T} {b2 : Bool} (h2 : Itm b y b2) (hb : b2 = true) : mkListE b x = mkList (x ++ y) := by
  subst hb
  rw [h2.list, mkListE_app]
theorem bulkL_app : ∀ x y : List T, bulkL (x ++ y) = bulkL x + bulkL y
  | [], y => by simp [bulkL]
  | a :: r, y => by simp only [List.cons_append, bulkL, bulkL_app r y]; omega
theorem bulkL_rev : ∀ x : List T, bulkL x.reverse = bulkL x
  | [] => rfl
  | a :: r => by rw [List.reverse_cons, bulkL_app, bulkL_rev r]; simp only [bulkL]; omega
theorem rev_step {xs cur : List D} {i : Nat} {x y : D} (hcl : cur.length = xs.length) (hlt : 2 * i + 1 < xs.length) (hx : cur[i]? = some x) (hy : cur[xs.length - 1 - i]? = some y)
    (hq : ∀ q x, cur[q]? = some x → ((q < i ∨ xs.length - 1 - i < q) → xs.reverse[q]? = some x) ∧ ((i ≤ q ∧ q ≤ xs.length - 1 - i) → xs[q]? = some x)) :
    ∀ q z, ((cur.set i y).set (xs.length - 1 - i) x)[q]? = some z → ((q < i + 1 ∨ xs.length - 1 - (i + 1) < q) → xs.reverse[q]? = some z) ∧ ((i + 1 ≤ q ∧ q ≤ xs.length - 1 - (i + 1)) → xs[q]? = some z) := by
  intro q z h
  have hx0 := (hq i x hx).2 ⟨Nat.le_refl _, by omega⟩
  have hy0 := (hq _ y hy).2 ⟨by omega, Nat.le_refl _⟩
  by_cases e1 : q = xs.length - 1 - i
  · subst e1
    rw [List.getElem?_set_self (by simp; omega)] at h
    injection h with h
    subst h
    refine ⟨fun _ => ?_, fun h9 => by omega⟩
    rw [List.getElem?_reverse (by omega), show xs.length - 1 - (xs.length - 1 - i) = i by omega]
    exact hx0
  · rw [List.getElem?_set_ne (fun e => e1 e.symm)] at h
    by_cases e2 : q = i
    · subst e2
      rw [List.getElem?_set_self (by omega)] at h
      injection h with h
      subst h
      refine ⟨fun _ => ?_, fun h9 => by omega⟩
      rw [List.getElem?_reverse (by omega)]
      exact hy0
    · rw [List.getElem?_set_ne (fun e => e2 e.symm)] at h
      exact ⟨fun h9 => (hq q z h).1 (by omega), fun h9 => (hq q z h).2 (by omega)⟩
/-! ### Terms put at another depth -/
theorem lright_mk (k m d : Int) (s : ByteArray) (ks : List T) : lright (.mk k s m ks) d = true ↔ ¬ 40 < d ∧ oneB k s m ks.length = true ∧ ∀ u ∈ ks, lright u (d + 1) = true := by
  have hL : ∀ (ks : List T) (d : Int), lrightL ks d = true ↔ ∀ u ∈ ks, lright u d = true := by
    intro ks d
    induction ks with
    | nil => simp [lrightL]
    | cons a r ih => simp [lrightL, ih]
  simp only [lright, Bool.and_eq_true, hL, Bool.not_eq_true', decide_eq_false_iff_not, and_assoc]
theorem lright_at : ∀ (t : T) (d d2 : Int), lright t d = true → d2 + hgt t ≤ 41 → lright t d2 = true := by
  intro t
  induction t using T.ind with
  | h k s m ks ih =>
    intro d d2 h h2
    obtain ⟨h3, h4, h5⟩ := (lright_mk ..).1 h
    simp only [hgt] at h2
    exact (lright_mk ..).2 ⟨by omega, h4, fun u hu => ih u hu _ _ (h5 u hu) (by have := hgtL_mem hu; omega)⟩
theorem lright_list : ∀ (ys : List T) (d : Int), (∀ u ∈ ys, ∃ d0, lright u d0 = true) → (∀ (i : Nat) (u : T), ys[i]? = some u → d + i + 1 + hgt u ≤ 41) → d + ys.length ≤ 40 → lright (mkList ys) d = true
  | [], d, _, _, h => by
    refine (lright_mk ..).2 ⟨by simp at h; omega, by rfl, fun u hu => by cases hu⟩
  | t :: r, d, h1, h2, h3 => by
    simp only [List.length_cons] at h3
    refine (lright_mk ..).2 ⟨by omega, by rfl, fun u hu => ?_⟩
    simp only [List.mem_cons, List.not_mem_nil, or_false] at hu
    rcases hu with rfl | rfl
    · obtain ⟨d0, h0⟩ := h1 u (by simp)
      exact lright_at u d0 _ h0 (by have := h2 0 u rfl; simp at this; omega)
    · refine lright_list r (d + 1) (fun u hu => h1 u (by simp [hu])) (fun i u hu => ?_) (by omega)
      have := h2 (i + 1) u (by simpa using hu)
      push_cast at this
      omega
theorem lright_items : ∀ (ys : List T) (d : Int), lright (mkList ys) d = true → ∀ u ∈ ys, ∃ d0, lright u d0 = true
  | [], _, _, u, hu => by cases hu
  | t :: r, d, h, u, hu => by
    obtain ⟨_, _, h5⟩ := (lright_mk ..).1 h
    rcases List.mem_cons.1 hu with rfl | hu
    · exact ⟨_, h5 u (by simp)⟩
    · exact lright_items r _ (h5 (mkList r) (by simp)) u hu
theorem sz_mkList : ∀ ys : List T, sz (mkList ys) = 1 + ys.length + szs ys
  | [] => by simp [mkList, sz, szs]
  | t :: r => by
    have := sz_mkList r
    simp only [mkList, sz, szs, this, List.length_cons]
    omega
theorem szs_rev (xs : List T) : szs xs.reverse = szs xs := szs_perm (List.reverse_perm xs)
theorem okT_back {xs : List T} (h : okT (mkList xs) = true) (h2 : ∀ (i : Nat) (u : T), xs.reverse[i]? = some u → i + 2 + hgt u ≤ 41) (h3 : xs.length ≤ 39) : okT (mkList xs.reverse) = true := by
  obtain ⟨k1, k2⟩ := (okT_iff _).1 h
  refine (okT_iff _).2 ⟨lright_list _ 1 (fun u hu => lright_items xs 1 k1 u (List.mem_reverse.1 hu)) (fun i u hu => by have := h2 i u hu; omega) (by simp; omega), ?_⟩
  rw [sz_mkList, szs_rev, List.length_reverse, ← sz_mkList]
  exact k2
/-- The items of a list are what it was made of. -/
theorem its_mkList : ∀ ks : List T, Its (mkList ks) ks (atom0 nmNil)
  | [] => .end_ (by rfl)
  | t :: r => .pair (its_mkList r)
theorem Its.uniq {t : T} {r : List T} {e : T} (h : Its t r e) : ∀ {r2 : List T} {e2 : T}, Its t r2 e2 → r = r2 ∧ e = e2 := by
  induction h with
  | end_ hp => intro r2 e2 h2; obtain ⟨rfl, rfl⟩ := h2.inv.1 hp; exact ⟨rfl, rfl⟩
  | pair hi ih =>
    intro r2 e2 h2
    obtain ⟨r3, rfl, h3⟩ := h2.inv.2 _ _ _ rfl
    obtain ⟨rfl, rfl⟩ := ih h3
    exact ⟨rfl, rfl⟩
theorem Its.len {t : T} {r : List T} {e : T} (h : Its t r e) : r.length + 1 ≤ hgt t ∧ ∀ u ∈ r, hgt u + 1 ≤ hgt t := by
  induction h with
  | end_ _ => rename_i t _; obtain ⟨k, s, m, ks⟩ := t; exact ⟨by simp [hgt], fun u hu => by cases hu⟩
  | pair hi ih =>
    simp only [hgt, hgtL, List.length_cons]
    obtain ⟨h1, h2⟩ := ih
    refine ⟨by omega, fun u hu => ?_⟩
    rcases List.mem_cons.1 hu with rfl | hu
    · omega
    · have := h2 u hu; omega
theorem Itm.its {t : T} {xs : List T} (h : Itm t xs true) : okT t = true ∧ ∃ e, Its t xs e ∧ nilB e = true := by
  obtain ⟨r, e, h1, h2, h3⟩ := h
  have h4 := h2.symm
  rw [h2.symm, if_pos rfl] at h3
  rw [Bool.and_eq_true] at h4
  subst h3
  exact ⟨h4.1, e, h1, h4.2⟩
/-- A low term's list turned round is right. -/
theorem back_low {t : T} (h : hgt t ≤ 4) : ∀ xs, Itm t xs true → okT (mkList xs.reverse) = true := by
  intro xs hi
  obtain ⟨h1, e, h2, h3⟩ := hi.its
  obtain ⟨h4, h5⟩ := h2.len
  refine okT_back (hi.list ▸ h1) (fun i u hu => ?_) (by omega)
  have h6 := lt_of_get hu
  have h7 := h5 u (List.mem_reverse.1 (List.mem_of_getElem? hu))
  simp at h6
  omega
theorem back_none {t : T} (h : pairB t = false) (h2 : nilB t = false) : ∀ xs, Itm t xs true → okT (mkList xs.reverse) = true := by
  intro xs hi
  obtain ⟨_, e, h3, h4⟩ := hi.its
  obtain ⟨_, rfl⟩ := h3.inv.1 h
  rw [h2] at h4; cases h4
theorem hgtL_max : ∀ {ks : List T}, hgtL ks ≠ 0 → ∃ u ∈ ks, hgt u = hgtL ks
  | [], h => absurd rfl h
  | t :: r, h => by
    simp only [hgtL] at h ⊢
    by_cases h1 : hgtL r ≤ hgt t
    · exact ⟨t, by simp, by omega⟩
    · obtain ⟨u, hu, hm⟩ := hgtL_max (ks := r) (by omega)
      exact ⟨u, by simp [hu], by omega⟩
theorem lright_hgt : ∀ (t : T) (d : Int), lright t d = true → d + hgt t ≤ 41 := by
  intro t
  induction t using T.ind with
  | h k s m ks ih =>
    intro d h
    obtain ⟨h3, h4, h5⟩ := (lright_mk ..).1 h
    simp only [hgt]
    by_cases h0 : hgtL ks = 0
    · omega
    · obtain ⟨u, hu, hm⟩ := hgtL_max h0
      have := ih u hu _ (h5 u hu)
      omega
theorem bulkL_k : ∀ {ks : List T}, (∀ t ∈ ks, bulk t ≤ 1000) → bulkL ks ≤ 1000 * ks.length
  | [], _ => by simp [bulkL]
  | t :: r, h => by
    have h1 := h t (by simp)
    have h2 := bulkL_k (ks := r) fun u hu => h u (by simp [hu])
    simp only [bulkL, List.length_cons]
    omega
/-- What is drawn for lists. -/
def Drn (ts us : List T) : Prop := ts.length ≤ 6 ∧ us.length ≤ 1 ∧ (∀ t ∈ ts, bulk t ≤ 623 ∧ hgt t ≤ 4) ∧ ∀ u ∈ us, bulk u ≤ 1000
theorem Drn.few {ts us : List T} (h : Drn ts us) : (∀ t ∈ ts ++ us, bulk t ≤ 1000) ∧ (ts ++ us).length ≤ 7 ∧ bulkL (ts ++ us) ≤ 7000 ∧ bulk (mkList (ts ++ us)) ≤ 10000 := by
  obtain ⟨h1, h2, h3, h4⟩ := h
  have h5 : ∀ t ∈ ts ++ us, bulk t ≤ 1000 := fun t ht => by
    rcases List.mem_append.1 ht with ht | ht
    · have := (h3 t ht).1; omega
    · exact h4 t ht
  have h6 : (ts ++ us).length ≤ 7 := by rw [List.length_append]; omega
  have h7 := bulkL_k h5
  refine ⟨h5, h6, by omega, ?_⟩
  rw [← mkListE_nil, bulk_mkListE, bulk_leaf]
  have h9 : (nmNil.size : Int) = 2 := rfl
  rw [h9]
  omega
/-- A term under so many names of one place. -/
def wrapN : Nat → T → T
  | 0, t => t
  | n + 1, t => .mk 4 ⟨#[115]⟩ 0 [wrapN n t]
theorem bulk_wrap (t : T) : ∀ n : Nat, bulk (wrapN n t) ≤ bulk t + 5 * n
  | 0 => by simp [wrapN]
  | n + 1 => by
    have := bulk_wrap t n
    have h1 : ((⟨#[115]⟩ : ByteArray).size : Int) = 1 := rfl
    simp only [wrapN, bulk, bulkS_eq, bulkL, List.length_cons, List.length_nil, h1]
    omega
theorem wrap_none {t : T} : ∀ {n : Nat}, 0 < n → pairB (wrapN n t) = false ∧ nilB (wrapN n t) = false
  | n + 1, _ => ⟨by rfl, by rfl⟩
/-- So is a list of low terms, and one behind them. -/
theorem back_list {ts us : List T} (h1 : ts.length ≤ 6) (h2 : us.length ≤ 1) (h3 : ∀ t ∈ ts, hgt t ≤ 4) : ∀ xs, Itm (mkList (ts ++ us)) xs true → okT (mkList xs.reverse) = true := by
  intro xs hi
  obtain ⟨h4, e, h5, h6⟩ := hi.its
  obtain ⟨rfl, _⟩ := h5.uniq (its_mkList (ts ++ us))
  match us, h2 with
  | [], _ =>
    rw [List.append_nil] at h4 ⊢
    refine okT_back h4 (fun i u hu => ?_) (by omega)
    have := h3 u (List.mem_reverse.1 (List.mem_of_getElem? hu))
    have h8 := lt_of_get hu
    simp at h8
    omega
  | [u0], _ =>
    refine okT_back h4 (fun i u hu => ?_) (by simp; omega)
    rw [List.reverse_append] at hu
    have h8 := lt_of_get hu
    simp at h8
    cases i with
    | zero =>
      simp at hu
      subst hu
      -- the one behind stood at least as deep
      have hd : ∀ (ts : List T) (d : Int), lright (mkList (ts ++ [u0])) d = true → ∃ d2 : Int, d + 1 ≤ d2 ∧ lright u0 d2 = true := by
        intro ts
        induction ts with
        | nil =>
          intro d h
          obtain ⟨_, _, h9⟩ := (lright_mk ..).1 h
          exact ⟨d + 1, Int.le_refl _, h9 u0 (by simp)⟩
        | cons a r ih =>
          intro d h
          obtain ⟨_, _, h9⟩ := (lright_mk ..).1 h
          obtain ⟨d2, k1, k2⟩ := ih (d + 1) (h9 (mkList (r ++ [u0])) (by simp))
          exact ⟨d2, by omega, k2⟩
      obtain ⟨d2, k1, k2⟩ := hd ts 1 (okT_right h4)
      have := lright_hgt u0 d2 k2
      omega
    | succ i =>
      simp at hu
      have := h3 u (List.mem_reverse.1 (List.mem_of_getElem? hu))
      omega
end Go.Eng

/- The engine: what a state holds as trees that stand apart; results of that kind. -/
import Derived.Test.YtleahipnknainaaDoorEng17
set_option linter.unusedVariables false
set_option linter.unusedSimpArgs false
namespace Go.Eng

mutual
/-- A value that is a tree of its own: over boxes I and blocks K. -/
inductive OwV (B : Nat) (C : Cx) (L : Hp) : V → D → List Nat → List Nat → Prop
  | c {x : Value} : OwV B C L (.d (.c x)) (.c x) [] []
  | nil {l : Lay} : OwV B C L nilsl (.sl l []) [] []
  | raw {l : Lay} {d : D} {cs : List Value} {K : List Nat} : Has B C d cs K → cs.length = l.len → OwV B C L (rawV l cs) d [] K
  | agg {fs : List Lay} {vs : List V} {ds : List D} {I K : List Nat} : OwVs B C L fs vs ds I K → OwV B C L (.agg fs vs) (.agg fs ds) I K
  | ref {l : Lay} {i m : Nat} {bx : Box} {ds : List D} {I K : List Nat} : L[i]? = some (some bx) → bx.l = l → bx.es.length = m → OwVs B C L (List.replicate m l) bx.es ds I K → i ∉ I → OwV B C L (.ref l i 0 m) (.sl l ds) (i :: I) K
inductive OwVs (B : Nat) (C : Cx) (L : Hp) : List Lay → List V → List D → List Nat → List Nat → Prop
  | nil : OwVs B C L [] [] [] [] []
  | cons {f : Lay} {fs : List Lay} {v : V} {vs : List V} {d : D} {ds : List D} {I I' K K' : List Nat} : OwV B C L v d I K → OwVs B C L fs vs ds I' K' → (∀ i ∈ I, i ∉ I') → (∀ b ∈ K, b ∉ K') → OwVs B C L (f :: fs) (v :: vs) (d :: ds) (I ++ I') (K ++ K')
  | raws {l : Lay} {css : List (List Value)} {ds : List D} {K : List Nat} : HasL B C l css ds K → OwVs B C L (List.replicate css.length l) (css.map (rawV l)) ds [] K
  | scal {l : Lay} {xs : List Value} : OwVs B C L (List.replicate xs.length l) (xs.map fun x => V.d (.c x)) (xs.map D.c) [] []
end

section
variable {P : Program} {B : Nat} {C : Cx} {n : Nat} {f : Fr} {L : Hp} {a : Act} {w : World} {β : Beta} {S : Nat → Prop}
mutual
theorem OwV_K : ∀ {v : V} {d : D} {I K : List Nat}, OwV B C L v d I K → ∀ b ∈ K, ¬ C.Dm b ∧ b < C.w0.heap.size ∧ B ≤ b
  | _, _, _, _, .c, b, hb => by cases hb
  | _, _, _, _, .nil, b, hb => by cases hb
  | _, _, _, _, .raw h _, b, hb => ⟨h.dm b hb, Tr_lt _ _ _ h.tr b hb, h.lo b hb⟩
  | _, _, _, _, .agg h, b, hb => OwVs_K h b hb
  | _, _, _, _, .ref _ _ _ h _, b, hb => OwVs_K h b hb
theorem OwVs_K : ∀ {fs : List Lay} {vs : List V} {ds : List D} {I K : List Nat}, OwVs B C L fs vs ds I K → ∀ b ∈ K, ¬ C.Dm b ∧ b < C.w0.heap.size ∧ B ≤ b
  | _, _, _, _, _, .nil, b, hb => by cases hb
  | _, _, _, _, _, .cons h k _ _, b, hb => by
    rcases List.mem_append.1 hb with hb | hb
    · exact OwV_K h b hb
    · exact OwVs_K k b hb
  | _, _, _, _, _, .raws h, b, hb => ⟨h.dm b hb, Trs_lt _ _ _ _ h.tr b hb, h.lo b hb⟩
  | _, _, _, _, _, .scal, b, hb => by cases hb
end

/-- Where the blocks of such a tree lie. -/
def Foot (L : Hp) (β : Beta) (I K : List Nat) (b : Nat) : Prop := b ∈ K ∨ ∃ i ∈ I, ∃ bx c, L[i]? = some (some bx) ∧ β i = some (some (b, c))
theorem Foot_apart (hr : Rel C n f L a w β S) {I I' K K' : List Nat} (hK : ∀ b ∈ K, ¬ C.Dm b ∧ b < C.w0.heap.size ∧ B ≤ b) (hK' : ∀ b ∈ K', ¬ C.Dm b ∧ b < C.w0.heap.size ∧ B ≤ b) (hi : ∀ i ∈ I, i ∉ I') (hb : ∀ b ∈ K, b ∉ K') {b : Nat} (h : Foot L β I K b) : ¬ Foot L β I' K' b := by
  intro h'
  have box : ∀ b, (¬ C.Dm b ∧ b < C.w0.heap.size ∧ B ≤ b) → ∀ i bx c, L[i]? = some (some bx) → β i = some (some (b, c)) → False := by
    intro b ⟨h1, h2, _⟩ i bx c hL hβ
    rcases hr.own i bx b c hL hβ with h3 | h3
    · exact h1 h3
    · omega
  rcases h with h | ⟨i, hi1, bx, c, hL, hβ⟩
  · rcases h' with h' | ⟨i', hi1', bx', c', hL', hβ'⟩
    · exact hb b h h'
    · exact box b (hK b h) i' bx' c' hL' hβ'
  · rcases h' with h' | ⟨i', hi1', bx', c', hL', hβ'⟩
    · exact box b (hK' b h') i bx c hL hβ
    · have := hr.hp.inj i i' b bx bx' c c' hL hL' hβ hβ'
      subst this
      exact hi i hi1 hi1'

theorem Trs_scal {w : World} {l : Lay} : ∀ (xs : List Value) (cs : List Value), VCs β S w (List.replicate xs.length l) (xs.map fun x => V.d (.c x)) cs → Trs w (List.replicate xs.length l) (xs.map D.c) cs []
  | [], cs, h => by
    simp only [List.map_nil, List.length_nil, List.replicate_zero, VCs, Trs] at h ⊢
    exact ⟨h.1, h.2, trivial⟩
  | x :: xs, cs, h => by
    simp only [List.map_cons, List.length_cons, List.replicate_succ, VCs, Trs] at h ⊢
    obtain ⟨f', fr', c1, c2, e, rfl, h3, h4, h5⟩ := h
    injection e with e1 e2
    subst e1; subst e2
    simp only [VC, DC] at h4
    refine ⟨l, _, c1, c2, [], [], rfl, rfl, h3, rfl, by simp, ?_, Trs_scal xs c2 h5⟩
    simp only [Tr]
    exact ⟨h4.1, h4.2, trivial⟩

mutual
theorem OwV_sound (hr : Rel C n f L a w β S) : ∀ {v : V} {d : D} {I K : List Nat}, OwV B C L v d I K → ∀ cs, VC β S w v cs → ∃ M, Tr w d cs M ∧ ∀ b ∈ M, Foot L β I K b
  | _, _, _, _, .c, cs, h => by
    simp only [VC, DC] at h
    exact ⟨[], by simp only [Tr]; exact ⟨h.1, h.2, trivial⟩, by simp⟩
  | _, _, _, _, .nil, cs, h => by
    simp only [VC, DC] at h
    exact ⟨[], by simp only [Tr]; exact .inl ⟨h.1, trivial, trivial⟩, by simp⟩
  | _, _, _, _, .raw (l := l) (cs := cs0) (K := K) h hl, cs, hv => by
    have := rawV_cells l cs0 cs hl hv
    subst this
    refine ⟨K, Tr_keep _ _ _ (fun b hb => hr.pres.block b (Tr_lt _ _ _ h.tr b hb) (h.dm b hb)) h.tr, fun b hb => .inl hb⟩
  | _, _, _, _, .agg k, cs, h => by
    simp only [VC] at h
    obtain ⟨M, h1, h2⟩ := OwVs_sound hr k cs h
    exact ⟨M, by simp only [Tr]; exact h1, h2⟩
  | _, _, _, _, .ref (l := l) (i := i) (bx := bx) (ds := ds) (I := I) (K := K) hL hbl hm k hni, cs, h => by
    simp only [VC] at h
    obtain ⟨hli, hbr⟩ := hr.hp.bx i bx hL
    subst hbl; subst hm
    have hlen : bx.es.length = ds.length := OwVs_length k
    rcases h with ⟨h1, h2, h3, h4⟩ | ⟨b, Cp, h1, h2, h3⟩
    · refine ⟨[], ?_, by simp⟩
      simp only [Tr]
      exact .inl ⟨h2, List.eq_nil_of_length_eq_zero (by omega), trivial⟩
    · rcases hbr with ⟨q1, _⟩ | ⟨b', C', cur, dsv, q1, q2, q3, q4, q5, q6⟩
      · rw [q1] at h1; cases h1
      · rw [q1] at h1
        injection h1 with h1; injection h1 with h1; injection h1 with h1 h1'
        subst h1; subst h1'
        obtain ⟨M, t1, t2⟩ := OwVs_sound hr k dsv q5
        have hap : b' ∉ M := fun hb => by
          have h1 := t2 b' hb
          refine Foot_apart (I := [i]) (K := []) (B := B) hr (by simp) (OwVs_K k) (by simpa using hni) (by simp) (.inr ⟨i, by simp, bx, C', hL, q1⟩) h1
        refine ⟨b' :: M, ?_, ?_⟩
        · simp only [Tr]
          refine .inr ⟨b', C', cur, bx.ty, dsv, M, rfl, hap, ?_, q2, q3, by omega, q4.2, by omega, by rw [← hlen]; exact t1, q6⟩
          rw [h2, hlen]
          simp
        · intro b hb
          rcases List.mem_cons.1 hb with rfl | hb
          · exact .inr ⟨i, by simp, bx, C', hL, q1⟩
          · rcases t2 b hb with h5 | ⟨i', h5, h6⟩
            · exact .inl h5
            · exact .inr ⟨i', by simp [h5], h6⟩
theorem OwVs_sound (hr : Rel C n f L a w β S) : ∀ {fs : List Lay} {vs : List V} {ds : List D} {I K : List Nat}, OwVs B C L fs vs ds I K → ∀ cs, VCs β S w fs vs cs → ∃ M, Trs w fs ds cs M ∧ ∀ b ∈ M, Foot L β I K b
  | _, _, _, _, _, .nil, cs, h => by
    simp only [VCs] at h
    exact ⟨[], by simp only [Trs]; exact ⟨trivial, h.2, trivial⟩, by simp⟩
  | _, _, _, _, _, .cons (I := I) (I' := I') (K := K) (K' := K') k1 k2 hi hb, cs, h => by
    simp only [VCs] at h
    obtain ⟨f', fr', c1, c2, e, rfl, h3, h4, h5⟩ := h
    injection e with e1 e2
    subst e1; subst e2
    obtain ⟨M1, t1, t2⟩ := OwV_sound hr k1 c1 h4
    obtain ⟨M2, t3, t4⟩ := OwVs_sound hr k2 c2 h5
    refine ⟨M1 ++ M2, ?_, ?_⟩
    · simp only [Trs]
      exact ⟨_, _, c1, c2, M1, M2, rfl, rfl, h3, rfl, fun b h1 h2 => Foot_apart hr (OwV_K k1) (OwVs_K k2) hi hb (t2 b h1) (t4 b h2), t1, t3⟩
    · intro b hm
      rcases List.mem_append.1 hm with hm | hm
      · rcases t2 b hm with h5 | ⟨i', h5, h6⟩
        · exact .inl (List.mem_append_left _ h5)
        · exact .inr ⟨i', List.mem_append_left _ h5, h6⟩
      · rcases t4 b hm with h5 | ⟨i', h5, h6⟩
        · exact .inl (List.mem_append_right _ h5)
        · exact .inr ⟨i', List.mem_append_right _ h5, h6⟩
  | _, _, _, _, _, .raws (l := l) (css := css) (K := K) h, cs, hv => by
    have := VCs_raws css cs h.each hv
    subst this
    refine ⟨K, ?_, fun b hb => .inl hb⟩
    rw [h.len]
    exact Trs_keep _ _ _ _ (fun b hb => hr.pres.block b (Trs_lt _ _ _ _ h.tr b hb) (h.dm b hb)) h.tr
  | _, _, _, _, _, .scal (l := l) (xs := xs), cs, hv => ⟨[], Trs_scal xs cs hv, by simp⟩
theorem OwVs_length : ∀ {fs : List Lay} {vs : List V} {ds : List D} {I K : List Nat}, OwVs B C L fs vs ds I K → vs.length = ds.length
  | _, _, _, _, _, .nil => rfl
  | _, _, _, _, _, .cons _ h _ _ => by simp [OwVs_length h]
  | _, _, _, _, _, .raws h => by simp [h.len]
  | _, _, _, _, _, .scal => by simp
end
end

/-- Where the body of a function of that kind may end. -/
def retO (fn : Func) (P : Program) (w0 : World) (r : D) (a : Act) (w' : World) : Prop :=
  a.defers = [] ∧ ∃ x, (results fn a.tmps).run P w' = .ok x w' ∧ ∃ M, Tr w' r x.cells.toList M ∧ r.isAgg = isAggV x ∧ (∀ b ∈ M, w0.heap.size ≤ b) ∧ Pres (fun _ => False) w0 w'
def retOQ (fn : Func) (P : Program) (w0 : World) (r : D) : AQ := fun e a w => ends e = true ∧ retO fn P w0 r a w

section
variable {P : Program} {C : Cx} {n : Nat} {f : Fr} {L : Hp}
theorem retO_fin {C0 : Cx} {fn : Func} {v : V} {r : D} {I K : List Nat} (hx : CExt C0 C) (hdm : ∀ b, ¬ C0.Dm b) (hrv : RetV P f L fn.results.toList [v]) (how : OwV C0.w0.heap.size C L v r I K) (hag : v.isAgg = r.isAgg) (hk : v.known = true) : Fin C n (retO fn P C0.w0 r) f L := by
  intro a w' β' S' hr
  have hr0 := hr.back hx
  obtain ⟨ys, hy, hall⟩ := RetV_run hr hrv
  have hrun := results_run (fn := fn) hy
  cases hall with
  | cons h1 h2 =>
    rename_i y ys
    cases h2
    rcases h1 with h1 | ⟨h1, h2⟩
    · rw [h1] at hk; cases hk
    · obtain ⟨M, t1, t2⟩ := OwV_sound hr how _ h1
      refine ⟨hr.df, y, by simpa using hrun, M, t1, by rw [← hag, h2], fun b hb => ?_, ⟨hr0.pres.os, hr0.pres.tape, hr0.pres.output, hr0.pres.size, fun b hb _ => hr0.pres.block b hb (hdm b)⟩⟩
      rcases t2 b hb with h5 | ⟨i, _, bx, c, hL, hβ⟩
      · exact (OwV_K how b h5).2.2
      · rcases hr0.own i bx b c hL hβ with h6 | h6
        · exact (hdm b h6).elim
        · exact h6

theorem fr0_rel {w : World} {S : Nat → Prop} {ds : List D} {xs : List Value} (hlen : ds.length ≤ n) (hS : ∀ b, S b → b < w.heap.size) (hd : All2 (RD S w) ds xs) :
    Rel ⟨w, fun _ => False, S⟩ n (fr0 ds) [] { tmps := xs.toArray ++ Array.replicate (n - xs.toArray.size) undef, defers := [] } w (fun _ => none) S := by
  have hxl : xs.length = ds.length := by
    clear hlen
    induction hd with
    | nil => rfl
    | cons _ _ ih => simp [ih]
  have hget : ∀ (ds : List D) (xs : List Value), All2 (RD S w) ds xs → ∀ (i : Nat) (d : D), ds[i]? = some d → ∃ x : Value, xs[i]? = some x ∧ RD S w d x := by
    intro ds xs h
    induction h with
    | nil => intro i d h; simp at h
    | cons h1 _ ih =>
      intro i d hi
      cases i with
      | zero => simp at hi; subst hi; exact ⟨_, rfl, h1⟩
      | succ i => simp at hi; simpa using ih i d hi
  refine ⟨rfl, ?_, fun i => ?_, ⟨?_, ?_, ?_, hS, fun _ _ => rfl⟩, ?_, fun b hb => .inl hb, fun b hb => hb, Pres.refl _ _⟩
  · simp; omega
  · show VR _ _ _ (match ds[i]? with | some d => V.d d | none => .any) _
    cases e : ds[i]? with
    | none => exact VR_any ..
    | some d =>
      obtain ⟨x, hx, hrd⟩ := hget ds xs hd i d e
      have : (xs.toArray ++ Array.replicate (n - xs.toArray.size) undef).getD i undef = x := by
        have hi := lt_of_get hx
        rw [Array.getD_eq_getD_getElem?, Array.getElem?_append_left (by simpa using hi), List.getElem?_toArray, hx]
        rfl
      simp only
      rw [this]
      exact VR0_of_RD hrd
  · intro i b h; simp at h
  · intro i j b bx bx' c c' h; simp at h
  · intro i bx b c h; simp at h
  · intro i bx b c h; simp at h

theorem OCall_of {k : FuncId} {fn : Func} {c : Code} {ds : List D} {r : D} (hf : P.funcs[k]? = some fn) (hb : fn.body = some c) (hn : fn.ntmps = n) (hlen : ds.length ≤ n) (h : ∀ C0, (∀ b, ¬ C0.Dm b) → CT P C0 → AC P C0 n c (retOQ fn P C0.w0 r) (fr0 ds) []) : OCall P k ds r := by
  intro w S xs hS hT hd
  refine calls_of_wp hf hb ?_
  subst hn
  refine wp_mono (h ⟨w, fun _ => False, S⟩ (fun _ h => h) (CT.start hT fun _ _ h => h) _ w _ S (fr0_rel hlen hS hd)) ?_
  rintro e a w' ⟨hend, h1, x, h2, M, h3, h4, h5, h6⟩
  have fin : a.defers = [] ∧ ∃ v, (results fn a.tmps).run P w' = .ok v w' ∧ ∃ x M, Ending.returned v = .returned x ∧ Tr w' r x.cells.toList M ∧ r.isAgg = isAggV x ∧ (∀ b ∈ M, w.heap.size ≤ b) ∧ Pres (fun _ => False) w w' :=
    ⟨h1, x, h2, x, M, rfl, h3, h4, h5, h6⟩
  cases e with
  | normal => exact fin
  | ret => exact fin
  | _ => cases hend

theorem reto_ok {C0 : Cx} {fn : Func} {v : V} {r : D} {I K : List Nat} (hx : CExt C0 C) (hdm : ∀ b, ¬ C0.Dm b) (hrv : RetV P f L fn.results.toList [v]) (how : OwV C0.w0.heap.size C L v r I K) (hag : v.isAgg = r.isAgg) (hk : v.known = true) : Fin C n (retOQ fn P C0.w0 r .ret) f L := fun a w β S hr => ⟨rfl, retO_fin hx hdm hrv how hag hk a w β S hr⟩
theorem endo_ok {C0 : Cx} {fn : Func} {v : V} {r : D} {I K : List Nat} (hx : CExt C0 C) (hdm : ∀ b, ¬ C0.Dm b) (hrv : RetV P f L fn.results.toList [v]) (how : OwV C0.w0.heap.size C L v r I K) (hag : v.isAgg = r.isAgg) (hk : v.known = true) : Fin C n (retOQ fn P C0.w0 r .normal) f L := fun a w β S hr => ⟨rfl, retO_fin hx hdm hrv how hag hk a w β S hr⟩
end

/-! ### Calls of that kind in a region that draws its order; loops and ways under contexts of their own -/
section
variable {P : Program} {C : Cx} {n : Nat} {ops : Array Oper} {Q : AQ} {f : Fr} {L : Hp} {dst : Option Tmp} {ty : TypeId} {pos : String} {after : Array Edge} {i : Nat} {r : List Nat}
theorem StE_ocall (hT : CT P C) {x : Operand} {args : Array Operand} {ts : Array TypeId} {k : FuncId} {ds caps : List D} {rr : D} (l : Lay) (hx : ev f x = .d (.fn k caps)) (hcaps : caps.all (fun d => !d.isAgg) = true) (hc : Callable P k)
    (hp : OCall P k (ds ++ caps) rr) (ha : args.toList.map (ev f) = ds.map V.d) (hl : rr.len? = l.len) (hla : l.ag = rr.isAgg) (hd : dstOk n dst = true) :
    StE P C n ops ⟨dst, callV x args ts, ty, pos, after, none⟩ f (fun C' v => ∃ cs K, Got C rr l C' cs K ∧ v = rawV l cs) := by
  intro f' hf L' a w β S hr K Qc hK
  have hev := ev_looks hf
  refine runOr_none rfl ?_
  have hx' : ev f' x = .d (.fn k caps) := (hev x (by simp [Op.operands, Call.operands])).trans hx
  have ha' : args.toList.map (ev f') = ds.map V.d := by
    rw [maps_congr fun y hy => hev y (by simp [Op.operands, Call.operands]; exact .inr (by simpa using hy))]
    exact ha
  have hv := rel_ev hr x
  rw [hx'] at hv
  obtain ⟨xs, h1, h2⟩ := VR_fn hv
  unfold Oper.wp
  rw [call_run hc h1, Oper.upon_enter]
  have hall := (args_RD hr args.toList ds ha').append (caps_RD caps xs hcaps h2)
  have heq : (args.map a.eval ++ xs.toArray) = (args.toList.map a.eval ++ xs).toArray := by simp
  rw [heq]
  refine (hp w S _ hr.hp.fz (hT.tab hr) hall).mono ?_
  rintro e w' ⟨y, M, rfl, q1, q2, q3, q4⟩
  obtain ⟨C', hg, hr'⟩ := got_of hr q4 q1 q3 hl ((hr.called0 q4).puto (dstOk_spec hd) (raw_VR q1 q2 hl hla))
  exact hK C' _ _ _ _ _ ⟨_, M, hg, rfl⟩ hr'
theorem DT_ocall0 (hT : CT P C) {x : Operand} {args : Array Operand} {ts : Array TypeId} {k : FuncId} {ds : List D} {rr : D} (l : Lay) (ho : ops[i]? = some ⟨dst, callV x args ts, ty, pos, after, none⟩) (hx : ev f x = .d (.fn k [])) (hc : Callable P k) (hp : OCall P k ds rr) (ha : args.toList.map (ev f) = ds.map V.d)
    (hl : rr.len? = l.len) (hla : l.ag = rr.isAgg) (hd : dstOk n dst = true) (hr : (r.all fun j => (lookM (masks ops (i :: r) []) j).testBit i) = true) (h : ∀ C' cs K, Got C rr l C' cs K → DT P n ops C' Q r (updo f dst (rawV l cs)) L) : DT P n ops C Q (i :: r) f L :=
  .e ho rfl (StE_ocall hT (caps := []) l hx rfl hc (by rw [List.append_nil]; exact hp) ha hl hla hd) hr (fun C' v ⟨cs, K, hg, _⟩ hT => hT.ext hg.ext) fun C' v ⟨cs, K, hg, hv⟩ => by subst hv; exact h C' cs K hg

theorem enterX {ks : List Nat} {g : Fr} {St : Type} {mods : St → List (Nat × V)} {Lf : St → Hp} {Inv : Cx → St → Prop} (st : St) (src : List (Option Nat)) (hlen : src.length = (Lf st).length) (hnd : nodupS src = true) (hI : Inv C st)
    (hb : BxTo L src 0 (Lf st)) (hs : SlTo L src f (mods st ++ ks.map fun k => (k, g k))) : Fin C n (Held n fun C' f' L' => ∃ st, Inv C' st ∧ f' = FS ks g (mods st) ∧ L' = Lf st) f L := fun a w β S hr =>
  let ⟨f', L', β', S', hr', h1, h2⟩ := enterS src hlen hnd hb hs a w β S hr; ⟨C, f', L', β', S', hr', st, hI, h1, h2⟩
theorem closeX {ks : List Nat} {g : Fr} {St : Type} {mods : St → List (Nat × V)} {Lf : St → Hp} {μ : St → Nat} {Inv : Cx → St → Prop} {st : St} (st' : St) (src : List (Option Nat)) (hlen : src.length = (Lf st').length) (hnd : nodupS src = true) (hμ : μ st' < μ st) (hI : Inv C st')
    (hb : BxTo L src 0 (Lf st')) (hs : SlTo L src f (mods st' ++ ks.map fun k => (k, g k))) : Fin C n (Held n fun C' f' L' => ∃ st', μ st' < μ st ∧ Inv C' st' ∧ f' = FS ks g (mods st') ∧ L' = Lf st') f L := fun a w β S hr =>
  let ⟨f', L', β', S', hr', h1, h2⟩ := enterS src hlen hnd hb hs a w β S hr; ⟨C, f', L', β', S', hr', st', hμ, hI, h1, h2⟩
theorem joinX {J : Cx → Fr → Hp → Prop} {sl : List (Nat × V)} {L2 : Hp} (src : List (Option Nat)) (hlen : src.length = L2.length) (hnd : nodupS src = true) (hb : BxTo L src 0 L2) (hs : SlTo L src f sl) (hJ : J C (frOf sl) L2) : Fin C n (Held n J) f L := fun a w β S hr =>
  let ⟨f', L', β', S', hr', h1, h2⟩ := Wk_to (Z := fun f' L' => f' = frOf sl ∧ L' = L2) src _ L2 hlen hnd hb hs ⟨rfl, rfl⟩ a w β S hr; ⟨C, f', L', β', S', hr', by subst h1; subst h2; exact hJ⟩

end

mutual
theorem Vw_rawV {L : Hp} {src : List (Option Nat)} : ∀ (l : Lay) (cs : List Value), Vw L src (rawV l cs) (rawV l cs)
  | .one, cs => .rd .d
  | .st fs, cs => .agg (Vw_raws fs cs)
theorem Vw_raws {L : Hp} {src : List (Option Nat)} : ∀ (fs : List Lay) (cs : List Value), VwL L src (raws fs cs) (raws fs cs)
  | [], cs => .nil
  | f :: fr, cs => .cons (Vw_rawV f _) (Vw_raws fr _)
end
theorem VwL_rawL {L : Hp} {src : List (Option Nat)} {l : Lay} : ∀ (css : List (List Value)), VwL L src (css.map (rawV l)) (css.map (rawV l))
  | [] => .nil
  | c :: css => .cons (Vw_rawV l c) (VwL_rawL css)
theorem VwL_join {L : Hp} {src : List (Option Nat)} : ∀ {a b a' b' : List V}, VwL L src a a' → VwL L src b b' → VwL L src (a ++ b) (a' ++ b')
  | _, _, _, _, .nil, k => k
  | _, _, _, _, .cons h1 h2, k => .cons h1 (VwL_join h2 k)
theorem VwL_rep {L : Hp} {src : List (Option Nat)} {z : D} : ∀ (k : Nat), VwL L src (List.replicate k (.d z)) (List.replicate k (.d z))
  | 0 => .nil
  | k + 1 => .cons (.rd .d) (VwL_rep k)
/-- The boxes of a slice that is filled from the left with trees. -/
theorem VwL_fill {L : Hp} {src : List (Option Nat)} {l : Lay} {z : D} {css' : List (List Value)} {k' : Nat} {es : List V} (h : es = css'.map (rawV l) ++ List.replicate k' (.d z)) : VwL L src es (css'.map (rawV l) ++ List.replicate k' (.d z)) := by
  subst h
  exact VwL_join (VwL_rawL _) (VwL_rep _)
theorem fill_get {l : Lay} {z : D} (css : List (List Value)) (n : Nat) (h : css.length < n) : (css.map (rawV l) ++ List.replicate (n - css.length) (V.d z))[0 + css.length]? = some (.d z) := by
  rw [List.getElem?_append_right (by simp)]
  rw [show 0 + css.length - (css.map (rawV l)).length = 0 by simp]
  rw [List.getElem?_replicate, if_pos (by omega)]
theorem fill_set {l : Lay} {z : D} (css : List (List Value)) (n : Nat) (h : css.length < n) (c : List Value) : (css.map (rawV l) ++ List.replicate (n - css.length) (V.d z)).set (0 + css.length) (rawV l c) = (css ++ [c]).map (rawV l) ++ List.replicate (n - (css ++ [c]).length) (V.d z) := by
  have : n - css.length = (n - (css ++ [c]).length) + 1 := by simp; omega
  rw [this, List.replicate_succ, Nat.zero_add, List.set_append_right _ _ (by simp)]
  simp
theorem fill_done {l : Lay} {z : D} (css : List (List Value)) : css.map (rawV l) ++ List.replicate (css.length - css.length) (V.d z) = css.map (rawV l) := by simp
theorem OwVs_raws {B : Nat} {C : Cx} {L : Hp} {l : Lay} {css : List (List Value)} {ds : List D} {K : List Nat} {m : Nat} (h : HasL B C l css ds K) (hm : css.length = m) : OwVs B C L (List.replicate m l) (css.map (rawV l)) ds [] K := by
  subst hm
  exact .raws h
end Go.Eng

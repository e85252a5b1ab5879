/- Boxes become raw trees; results that own what they hold: several, and lists told with their block's type. -/
import Derived.Test.YtjhdkjacfclipaaUs
import Derived.Test.YtjhdkjacfclipaaMt
set_option linter.unusedVariables false
set_option linter.unusedSimpArgs false
namespace Go.Eng
section
variable {P : Program} {C : Cx} {n : Nat} {f : Fr} {L : Hp} {Q : AQ} {ops : Array Oper} {rest : List Oper} {a : Act} {w : World} {β : Beta} {S : Nat → Prop} {dst : Option Tmp} {ty : TypeId} {pos : String} {after : Array Edge}
theorem Rel.drop (h : Rel C n f L a w β S) (I : List Nat) : Rel C n f (dropL I L) a w β S :=
  ⟨h.df, h.sz, h.fr, ⟨fun i b hi => h.hp.bx i b (dropL_get I L i b hi).1, fun i j b bx bx' c c' hi hj => h.hp.inj i j b bx bx' c c' (dropL_get I L i bx hi).1 (dropL_get I L j bx' hj).1, fun i bx b c hi => h.hp.own i bx b c (dropL_get I L i bx hi).1, h.hp.fz, fun i hi => h.hp.un i (by rw [dropL_length] at hi; exact hi), fun i bx q hi => h.hp.ad i bx q (dropL_get I L i bx hi).1⟩,
   fun i bx b c hi => h.own i bx b c (dropL_get I L i bx hi).1, h.fz, h.s0, h.pres⟩

/-- A list of its own, with its block's type. -/
def TrE (e : TypeId) (w : World) (l : Lay) (xs : List D) (y : Value) (M : List Nat) : Prop :=
  (y = .slice none 0 0 ∧ xs = [] ∧ M = []) ∨
  ∃ b Cp cur vs M', M = b :: M' ∧ b ∉ M' ∧ y = .slice (some ⟨b, 0, none⟩) xs.length Cp ∧ w.heap[b]? = some (.cells cur e (0, 0)) ∧ cur.size = Cp * l.len ∧ xs.length ≤ Cp ∧ Cp ≤ maxLen ∧ xs.length ≤ lim ∧
    Trs w (List.replicate xs.length l) xs vs M' ∧ ∀ (j : Nat) (x : Value), vs[j]? = some x → cur[j]? = some x
theorem TrE.tr {e : TypeId} {l : Lay} {xs : List D} {y : Value} {M : List Nat} (h : TrE e w l xs y M) : Tr w (.sl l xs) [y] M := by
  simp only [Tr]
  rcases h with ⟨rfl, h2, h3⟩ | ⟨b, Cp, cur, vs, M', h1, h2, rfl, h4, h5, h6, h7, h8, h9, h10⟩
  · exact .inl ⟨rfl, h2, h3⟩
  · exact .inr ⟨b, Cp, cur, e, vs, M', h1, h2, rfl, h4, h5, h6, h7, h8, h9, h10⟩
theorem TrE.scalar {e : TypeId} {l : Lay} {xs : List D} {y : Value} {M : List Nat} (h : TrE e w l xs y M) : Value.scalar y = true := by
  rcases h with ⟨rfl, _⟩ | ⟨b, Cp, cur, vs, M', h1, h2, rfl, _⟩ <;> rfl
theorem Trs_split {l : Lay} : ∀ (xs : List D) (vs : List Value) (M : List Nat), Trs w (List.replicate xs.length l) xs vs M → ∃ css : List (List Value), vs = css.flatten ∧ css.length = xs.length ∧ ∀ c ∈ css, c.length = l.len
  | [], vs, M, h => by
    simp only [Trs] at h
    exact ⟨[], by simpa using h.2.1, rfl, by simp⟩
  | x :: xs, vs, M, h => by
    simp only [List.length_cons, List.replicate_succ, Trs] at h
    obtain ⟨f, fr, c1, c2, M1, M2, e, rfl, h3, rfl, h5, h6, h7⟩ := h
    injection e with e1 e2
    subst e1; subst e2
    obtain ⟨css, q1, q2, q3⟩ := Trs_split xs c2 M2 h7
    refine ⟨c1 :: css, by rw [q1]; rfl, by simp [q2], fun c hc => ?_⟩
    rcases List.mem_cons.1 hc with rfl | hc
    · exact h3
    · exact q3 c hc
/-- A new box over a list that a call handed out. -/
theorem Rel.take {w' : World} (hr : Rel C n f L a w β S) (hp : Pres (fun _ => False) w w') {e : TypeId} {l : Lay} {xs : List D} {y : Value} {M : List Nat} (ht : TrE e w' l xs y M) (hlo : ∀ b ∈ M, w.heap.size ≤ b) :
    ∃ C' css K β', CExt C C' ∧ HasL C.w0.heap.size C' l css xs K ∧ VR β' S w' (.ref l (L.length + 1) 0 xs.length) y ∧ Rel C' n f (L ++ [none, some ⟨e, l, (css.map (rawD l)).map V.d⟩]) a w' β' S := by
  have hlist : ∀ bx : Box, (L ++ [some (⟨e, l, []⟩ : Box)]).set L.length none ++ [some bx] = L ++ [none, some bx] := fun bx => by
    rw [List.set_append_right _ _ (by simp)]
    simp
  have hlen1 : (L ++ [some (⟨e, l, []⟩ : Box)]).length = L.length + 1 := by simp
  have hv := hr.virt e l
  generalize hβ' : setβ β L.length none = β' at hv
  have hβj : β' L.length = some none := by rw [← hβ', setβ_self]
  have hLj : (L ++ [some (⟨e, l, []⟩ : Box)])[L.length]? = some (some ⟨e, l, []⟩) := by simp
  have main : ∀ (o' : Option (Nat × Nat)) (css : List (List Value)) (K : List Nat) (vs : List Value), vs = css.flatten → css.length = xs.length → (∀ c ∈ css, c.length = l.len) → Trs w' (List.replicate xs.length l) xs vs K → (∀ b c, o' = some (b, c) → w.heap.size ≤ b ∧ b ∉ K) → (∀ b ∈ K, w.heap.size ≤ b) →
      (∀ β2 : Beta, β2 (L.length + 1) = some o' → BoxR β2 S w' (L.length + 1) ⟨e, l, (css.map (rawD l)).map V.d⟩) → (∀ β2 : Beta, β2 (L.length + 1) = some o' → VR β2 S w' (.ref l (L.length + 1) 0 xs.length) y) →
      ∃ C' css K β', CExt C C' ∧ HasL C.w0.heap.size C' l css xs K ∧ VR β' S w' (.ref l (L.length + 1) 0 xs.length) y ∧ Rel C' n f (L ++ [none, some ⟨e, l, (css.map (rawD l)).map V.d⟩]) a w' β' S := by
    intro o' css K vs hvs hcl hce htr ho hK hbx hvr
    have hr2 := hv.bcall (bx' := ⟨e, l, (css.map (rawD l)).map V.d⟩) (o := none) (o' := o') (S' := S) (w' := w') hLj hβj
      ⟨hp.os, hp.tape, hp.output, hp.size, fun b hb hd => hp.block b hb fun h => h.elim⟩ (fun b c hb => .inr (ho b c hb).1) (fun b c hb hs => by have := hr.hp.fz b hs; have := (ho b c hb).1; omega) (fun _ h => h)
      (fun b hb => ⟨by have := hr.hp.fz b hb; have := hp.size; omega, .inl hb⟩) (fun β2 k2 => by rw [hlen1] at k2 ⊢; exact hbx β2 k2)
    rw [hlist, hlen1] at hr2
    have hβ2 : ∀ i, i < L.length → setβ β' (L.length + 1) o' i = β i := fun i hi => by rw [setβ_ne _ _ (by omega), ← hβ', setβ_ne _ _ (by omega)]
    obtain ⟨g1, g2⟩ := hr2.restart
    refine ⟨_, css, K, _, g1, ⟨by rw [← hvs]; exact htr, hcl, hce, fun b hb ⟨i, bx, c, hL, hβi⟩ => ?_, fun b hb hs => ?_, fun b hb => ?_⟩, hvr _ (setβ_self _ _ _), g2⟩
    · by_cases hi : i < L.length
      · rw [List.getElem?_append_left hi] at hL
        rw [hβ2 i hi] at hβi
        have := (hr.hp.bx i bx hL).lt hβi
        have := hK b hb
        omega
      · by_cases hi2 : i = L.length + 1
        · subst hi2
          rw [setβ_self] at hβi
          injection hβi with hβi
          exact (ho b c hβi).2 hb
        · rw [List.getElem?_append_right (by omega)] at hL
          have h3 : i - L.length = 0 ∨ 2 ≤ i - L.length := by omega
          rcases h3 with h3 | h3
          · rw [h3] at hL; simp at hL
          · rw [List.getElem?_eq_none (by simpa using h3)] at hL; cases hL
    · have := hr.hp.fz b hs; have := hK b hb; omega
    · have := hr.pres.size; have := hK b hb; omega
  rcases ht with ⟨rfl, rfl, rfl⟩ | ⟨b, Cp, cur, vs, M', rfl, hbn, rfl, h4, h5, h6, h7, h8, h9, h10⟩
  · refine main none [] [] [] rfl rfl (by simp) (by simp [Trs]) (fun _ _ h => by cases h) (by simp) (fun β2 k2 => ⟨by simp, .inl ⟨k2, rfl⟩⟩) (fun β2 k2 => VR_ref_mk (.inl ⟨k2, rfl, rfl, rfl⟩))
  · obtain ⟨css, q1, q2, q3⟩ := Trs_split xs vs M' h9
    refine main (some (b, Cp)) css M' vs q1 q2 q3 h9 (fun b' c' hb => by injection hb with hb; injection hb with hb hb'; subst hb; exact ⟨hlo _ (by simp), hbn⟩) (fun b' hb => hlo b' (by simp [hb])) (fun β2 k2 => ⟨by simp [q2]; exact h8, .inr ⟨b, Cp, cur, vs, k2, h4, h5, ⟨by simp [q2]; exact h6, h7⟩, ?_, h10⟩⟩)
      (fun β2 k2 => VR_ref_mk (.inr ⟨b, Cp, k2, by simp, by omega⟩))
    have := DCs_rawD_mk (S := S) (w := w') css q3 (by rw [← q1]; exact Trs_scalar _ _ _ _ h9)
    rw [q1]
    have h := (VCs_d (β := β2) (css.map (rawD l)) (List.replicate css.length l) css.flatten).2 this
    simpa using h

/-- Several values as one. -/
def tupV : List Value → Value
  | [x] => x
  | xs => .tuple xs.toArray
theorem tupV_eq (xs : List Value) : (if h : xs.toArray.size = 1 then xs.toArray[0] else .tuple xs.toArray) = tupV xs := by
  match xs with
  | [] => rfl
  | [x] => rfl
  | x :: y :: r => simp [tupV]

/-- A function that hands out a list of its own, told with its block's type, and scalars. -/
def OTCall (P : Program) (k : FuncId) (ds : List D) (e : TypeId) (l : Lay) (xs : List D) (sc : List Value) : Prop :=
  ∀ (w : World) (S : Nat → Prop) (vs : List Value), (∀ b, S b → b < w.heap.size) → Tab P S w → All2 (RD S w) ds vs →
    Calls P k vs.toArray w fun en w' => ∃ y M, en = .returned (tupV (y :: sc)) ∧ TrE e w' l xs y M ∧ (∀ b ∈ M, w.heap.size ≤ b) ∧ Pres (fun _ => False) w w'
theorem OTCall.pcall {k : FuncId} {ds : List D} {e : TypeId} {l : Lay} {xs : List D} {sc : List Value} (h : OTCall P k ds e l xs sc) (hs : sc.all Value.scalar = true) : PCall P k ds (· = .sl l xs :: sc.map D.c) := fun w S vs hS hT hd =>
  (h w S vs hS hT hd).mono fun en w' ⟨y, M, h1, h2, h3, h4⟩ => by
    have hlt := Tr_lt _ _ _ h2.tr
    refine ⟨_, _, fun b => S b ∨ b ∈ M, h1, rfl, ?_, fun b hb => .inl hb, fun b hb => ?_, h4⟩
    · have hrd : RD (fun b => S b ∨ b ∈ M) w' (.sl l xs) y := ⟨by rw [cells_scalar h2.scalar]; exact Tr_DC _ _ _ (fun b hb => .inr hb) h2.tr, (isAgg_scalar h2.scalar).symm⟩
      cases sc with
      | nil => exact hrd
      | cons x r =>
        exact ⟨y :: x :: r, rfl, .cons hrd (RDs_c (x :: r) hs)⟩
    · rcases hb with hb | hb
      · have := hS b hb; have := h4.size; exact ⟨by omega, .inl hb⟩
      · exact ⟨hlt b hb, .inr (h3 b hb)⟩
def retVT (l : Lay) (q m : Nat) (sc : List Value) : V := match sc with
  | [] => .ref l q 0 m
  | sc => .tup (.ref l q 0 m :: sc.map fun x => V.d (.c x))
theorem sc_VR0 : ∀ (sc : List Value), sc.all Value.scalar = true → All2 (VR0 β S w) (sc.map fun x => V.d (.c x)) sc
  | [], _ => .nil
  | x :: r, h => by
    simp only [List.all_cons, Bool.and_eq_true] at h
    exact .cons (VR0_c.2 ⟨rfl, h.1⟩) (sc_VR0 r h.2)
theorem AL_otcall (hT : CT P C) {x : Operand} {args : Array Operand} {ts : Array TypeId} {k : FuncId} {ds : List D} {e : TypeId} {l : Lay} {xs : List D} {sc : List Value} (hx : ev f x = .d (.fn k [])) (hc : Callable P k)
    (hp : OTCall P k ds e l xs sc) (hsc : sc.all Value.scalar = true) (ha : args.toList.map (ev f) = ds.map V.d) (q : Nat) (hq : L.length = q) (hd : dstOk n dst = true)
    (h : ∀ C' css K, CExt C C' → HasL C.w0.heap.size C' l css xs K → css.length = xs.length → AL P C' n ops rest Q (updo f dst (retVT l (q + 1) xs.length sc)) (L ++ [none, some ⟨e, l, (css.map (rawD l)).map V.d⟩])) : AL P C n ops (⟨dst, callV x args ts, ty, pos, after, none⟩ :: rest) Q f L := by
  subst hq
  intro a w β S hr
  refine wpList_plain rfl fun K hK => ?_
  have hv := rel_ev hr x
  rw [hx] at hv
  obtain ⟨cv, h1, h2⟩ := VR_fn hv
  have hcv : cv = [] := by
    have := (DCs_len _ _ _ h2).1
    simpa [Lay.lens] using this
  subst hcv
  unfold Oper.wp
  rw [call_run hc h1, Oper.upon_enter]
  have heq : (args.map a.eval ++ ([] : List Value).toArray) = (args.toList.map a.eval).toArray := by
    show args.map a.eval ++ #[] = _
    rw [Array.append_empty, ← Array.toList_map, Array.toArray_toList]
  rw [heq]
  refine (hp w S _ hr.hp.fz (hT.tab hr) (args_RD hr args.toList ds ha)).mono ?_
  rintro en w' ⟨y, M, rfl, q1, q3, q4⟩
  obtain ⟨C', css, K', β', g1, g2, g3, g4⟩ := hr.take q4 q1 q3
  refine hK _ _ (h C' css K' g1 g2 g2.len _ _ _ _ (g4.puto (dstOk_spec hd) ?_))
  cases sc with
  | nil => exact g3
  | cons z r =>
    rcases g3 with g3 | g3
    · cases g3
    · exact ⟨y :: z :: r, rfl, .cons (.inr g3) (sc_VR0 (z :: r) hsc)⟩

/-- What such a function may hand out. -/
inductive OwT (B : Nat) (C : Cx) (L : Hp) (e : TypeId) (l : Lay) : V → List D → Prop
  | nil : OwT B C L e l nilsl []
  | ref {i m : Nat} {bx : Box} {ds : List D} {I K : List Nat} : L[i]? = some (some bx) → bx.ty = e → bx.l = l → bx.es.length = m → OwVs B C L (List.replicate m l) bx.es ds I K → i ∉ I → OwT B C L e l (.ref l i 0 m) ds
theorem OwT_sound {B : Nat} {e : TypeId} {l : Lay} (hr : Rel C n f L a w β S) {v : V} {xs : List D} (h : OwT B C L e l v xs) {y : Value} (hv : VR β S w v y) : ∃ M, TrE e w l xs y M ∧ ∀ b ∈ M, B ≤ b ∨ C.Dm b ∨ C.w0.heap.size ≤ b := by
  cases h with
  | nil => 
    obtain ⟨rfl, _⟩ := VR_c.1 hv
    exact ⟨[], .inl ⟨rfl, rfl, rfl⟩, by simp⟩
  | ref hL hty hbl hm k hni =>
    rename_i i m bx I K
    obtain ⟨hli, hbr⟩ := hr.hp.bx i bx hL
    subst hbl; subst hm
    replace hty : bx.ty.t = e := congrArg BT.t hty
    subst hty
    have hlen : bx.es.length = xs.length := OwVs_length (n := n) (f := f) (a := a) (w := w) (β := β) (S := S) k
    rcases VR_ref hv with ⟨h1, h2, h3, h4⟩ | ⟨b, Cp, h1, h2, h3⟩
    · exact ⟨[], .inl ⟨h2, List.eq_nil_of_length_eq_zero (by omega), rfl⟩, by simp⟩
    · rcases hbr with ⟨q1, _⟩ | ⟨b', C', cur, dsv, q1, q2, q3, q4, q5, q6⟩
      · rw [q1] at h1; cases h1
      · rw [q1] at h1
        injection h1 with h1; injection h1 with h1; injection h1 with h1 h1'
        subst h1; subst h1'
        obtain ⟨M, t1, t2⟩ := OwVs_sound hr k dsv q5
        have hap : b' ∉ M := fun hb => by
          have h1 := t2 b' hb
          exact Foot_apart (I := [i]) (K := []) (B := B) hr (by simp) (OwVs_K k) (by simpa using hni) (by simp) (.inr ⟨i, by simp, bx, C', hL, q1⟩) h1
        refine ⟨b' :: M, .inr ⟨b', C', cur, dsv, M, rfl, hap, ?_, q2, q3, by omega, q4.2, by omega, by rw [← hlen]; exact t1, q6⟩, fun b hb => ?_⟩
        · rw [h2, hlen]; simp
        · rcases List.mem_cons.1 hb with rfl | hb
          · exact .inr (hr.own i bx b C' hL q1)
          · rcases t2 b hb with h5 | ⟨i', _, bx', c', hL', hβ'⟩
            · exact .inl (OwVs_K k b h5).2.2
            · exact .inr (hr.own i' bx' b c' hL' hβ')
def retT (fn : Func) (P : Program) (w0 : World) (e : TypeId) (l : Lay) (xs : List D) (sc : List Value) (a : Act) (w' : World) : Prop :=
  a.defers = [] ∧ ∃ x, (results fn a.tmps).run P w' = .ok x w' ∧ ∃ y M, x = tupV (y :: sc) ∧ TrE e w' l xs y M ∧ (∀ b ∈ M, w0.heap.size ≤ b) ∧ Pres (fun _ => False) w0 w'
def retTQ (fn : Func) (P : Program) (w0 : World) (e : TypeId) (l : Lay) (xs : List D) (sc : List Value) : AQ := fun en a w => ends en = true ∧ retT fn P w0 e l xs sc a w
theorem sc_back : ∀ (sc : List Value) (ys : List Value), All2 (VR0 β S w) (sc.map fun x => V.d (.c x)) ys → ys = sc
  | [], ys, h => by cases h; rfl
  | x :: r, ys, h => by
    cases h with
    | cons h1 h2 => rw [(VR0_c.1 h1).1, sc_back r _ h2]
theorem rett_ok {C0 : Cx} {fn : Func} {e : TypeId} {l : Lay} {xs : List D} {v : V} (sc : List Value) (hx : CExt C0 C) (hdm : ∀ b, ¬ C0.Dm b) (hrv : RetV P f L fn.results.toList (v :: sc.map fun x => V.d (.c x))) (how : OwT C0.w0.heap.size C L e l v xs) : Fin C n (retTQ fn P C0.w0 e l xs sc .ret) f L := by
  intro a w' β' S' hr
  refine ⟨rfl, ?_⟩
  have hr0 := hr.back hx
  obtain ⟨ys, hy, hall⟩ := RetV_run hr hrv
  have hrun := results_run (fn := fn) hy
  rw [tupV_eq] at hrun
  cases hall with
  | cons h1 h2 =>
    rename_i y ys
    have := sc_back sc ys h2
    subst this
    obtain ⟨M, t1, t2⟩ := OwT_sound hr how (VR_of_VR0 h1)
    refine ⟨hr.df, _, hrun, y, M, rfl, t1, fun b hb => ?_, ⟨hr0.pres.os, hr0.pres.tape, hr0.pres.output, hr0.pres.size, fun b hb _ => hr0.pres.block b hb (hdm b)⟩⟩
    rcases t2 b hb with h5 | h5 | h5
    · exact h5
    · rcases hx.dm b h5 with h6 | h6
      · exact (hdm b h6).elim
      · exact h6
    · have := hx.pres.size; omega
theorem OTCall_of {k : FuncId} {fn : Func} {c : Code} {ds : List D} {e : TypeId} {l : Lay} {xs : List D} {sc : List Value} (hf : P.funcs[k]? = some fn) (hb : fn.body = some c) (hn : fn.ntmps = n) (hlen : ds.length ≤ n) (h : ∀ C0, (∀ b, ¬ C0.Dm b) → CT P C0 → AC P C0 n c (retTQ fn P C0.w0 e l xs sc) (fr0 ds) []) : OTCall P k ds e l xs sc := by
  intro w S vs hS hT hd
  refine calls_of_wp hf hb ?_
  subst hn
  refine wp_mono (h ⟨w, fun _ => False, S⟩ (fun _ h => h) (CT.start hT fun _ _ h => h) _ w _ S (fr0_rel hlen hS hd)) ?_
  rintro en a w' ⟨hend, h1, x, h2, y, M, h3, h4, h5, h6⟩
  have fin : a.defers = [] ∧ ∃ v, (results fn a.tmps).run P w' = .ok v w' ∧ ∃ y M, Ending.returned v = .returned (tupV (y :: sc)) ∧ TrE e w' l xs y M ∧ (∀ b ∈ M, w.heap.size ≤ b) ∧ Pres (fun _ => False) w w' :=
    ⟨h1, x, h2, y, M, by rw [h3], h4, h5, h6⟩
  cases en with
  | normal => exact fin
  | ret => exact fin
  | _ => cases hend
/-- Two lists one behind the other. -/
theorem HasL.app {B B' : Nat} {l : Lay} {css css' : List (List Value)} {ds ds' : List D} {K K' : List Nat} (h : HasL B C l css ds K) (k : HasL B' C l css' ds' K') (hB : B ≤ B') (hd : ∀ b ∈ K, b < B') : HasL B C l (css ++ css') (ds ++ ds') (K ++ K') := by
  refine ⟨?_, by simp [h.len, k.len], fun c hc => ?_, fun b hb => ?_, fun b hb => ?_, fun b hb => ?_⟩
  · rw [List.length_append, ← List.replicate_append_replicate, List.flatten_append]
    exact Trs_app _ _ _ _ h.tr k.tr fun b hb hb' => by have := hd b hb; have := k.lo b hb'; omega
  · rcases List.mem_append.1 hc with hc | hc
    · exact h.each c hc
    · exact k.each c hc
  · rcases List.mem_append.1 hb with hb | hb
    · exact h.dm b hb
    · exact k.dm b hb
  · rcases List.mem_append.1 hb with hb | hb
    · exact h.s0 b hb
    · exact k.s0 b hb
  · rcases List.mem_append.1 hb with hb | hb
    · exact h.lo b hb
    · have := k.lo b hb; omega
theorem HasL.lt {B : Nat} {l : Lay} {css : List (List Value)} {ds : List D} {K : List Nat} (h : HasL B C l css ds K) : ∀ b ∈ K, b < C.w0.heap.size := Trs_lt _ _ _ _ h.tr
/-- A thing built out of data is data. -/
theorem Ev_buildD {g : Option (Nat × Bool)} {t : TypeId} {parts : Array (Nat × Operand)} {fs : List Lay} {zs : List D} {z : Value} {vs : List V} {ds : List D} (hz : tyZero P t = some (some z)) (hzc : cellsDs fs zs = some z.cells.toList) (hp : tyPlaces P t = some (layPlaces 0 fs)) (hb : BS f fs (zs.map V.d) parts.toList vs) (ha : allD vs = some ds) :
    Ev P C n ⟨dst, .build t parts, ty, pos, after, g⟩ f L (.d (.agg fs ds)) := by
  intro a w β S hr
  obtain ⟨x, h1, h2⟩ := Ev_build (C := C) (n := n) (L := L) (dst := dst) (ty := ty) (pos := pos) (after := after) (g := g) hz hzc hp hb a w β S hr
  refine ⟨x, h1, ?_⟩
  rw [allD_spec ha] at h2
  rcases h2 with h2 | ⟨h2, h3⟩
  · cases h2
  · refine .inr ⟨?_, h3⟩
    simp only [VC, DC] at h2 ⊢
    exact (VCs_dc ds fs _).1 h2
/-- A list in and out, with scalars. -/
def BTCall (P : Program) (k : FuncId) (pre : List D) (e : TypeId) (l : Lay) (xs : List D) (suf : List D) (ys : List D) (sc : List Value) : Prop :=
  ∀ (w : World) (S : Nat → Prop) (pv : List Value) (x : Value) (sv : List Value) (o : Option (Nat × Nat)), (∀ b, S b → b < w.heap.size) → Tab P S w → All2 (RD S w) pre pv → All2 (RD S w) suf sv → LB S w e l xs x o →
    Calls P k (pv ++ x :: sv).toArray w fun en w' => ∃ y S' o', en = .returned (tupV (y :: sc)) ∧ LB S' w' e l ys y o' ∧ (∀ b c, o' = some (b, c) → (∃ c0, o = some (b, c0)) ∨ w.heap.size ≤ b) ∧ (∀ b, S b → S' b) ∧ (∀ b, S' b → b < w'.heap.size ∧ (S b ∨ w.heap.size ≤ b ∨ ∃ c, o = some (b, c))) ∧
      Pres (fun b => ∃ c, o = some (b, c)) w w'
def retBT (fn : Func) (P : Program) (w0 : World) (S0 : Nat → Prop) (o : Option (Nat × Nat)) (e : TypeId) (l : Lay) (ys : List D) (sc : List Value) (a : Act) (w' : World) : Prop :=
  a.defers = [] ∧ ∃ x, (results fn a.tmps).run P w' = .ok x w' ∧ ∃ y S' o', x = tupV (y :: sc) ∧ LB S' w' e l ys y o' ∧ (∀ b c, o' = some (b, c) → (∃ c0, o = some (b, c0)) ∨ w0.heap.size ≤ b) ∧ (∀ b, S0 b → S' b) ∧ (∀ b, S' b → b < w'.heap.size ∧ (S0 b ∨ w0.heap.size ≤ b ∨ ∃ c, o = some (b, c))) ∧
      Pres (fun b => ∃ c, o = some (b, c)) w0 w'
def retBTQ (fn : Func) (P : Program) (w0 : World) (S0 : Nat → Prop) (o : Option (Nat × Nat)) (e : TypeId) (l : Lay) (ys : List D) (sc : List Value) : AQ := fun x a w => ends x = true ∧ retBT fn P w0 S0 o e l ys sc a w
theorem OwVs_rawds {B : Nat} {l : Lay} {css : List (List Value)} {ds : List D} {K : List Nat} {m : Nat} (h : HasL B C l css ds K) (hm : css.length = m) : OwVs B C L (List.replicate m l) ((css.map (rawD l)).map V.d) ds [] K := by
  subst hm; exact .rawds h
def retVR (A : Value) (sc : List Value) : V := match sc with
  | [] => .d (.c A)
  | sc => .tup (.d (.c A) :: sc.map fun x => V.d (.c x))
theorem HasL.one {B : Nat} {C' : Cx} {l : Lay} {d : D} {cs : List Value} {K : List Nat} (g : Got C d l C' cs K) (hB : B ≤ C.w0.heap.size) (hl : d.len? = l.len) : HasL B C' l [cs] [d] K := by
  have := (HasL.nil (B := B) (C := C) (l := l)).snoc g.ext g.has hB hl
  simpa using this
theorem ow_T3 {B : Nat} {k m : Int} {s : ByteArray} {ks : List T} {i mm : Nat} {bx : Box} {I K : List Nat} (hL : L[i]? = some (some bx)) (hbl : bx.l = LT) (hm : bx.es.length = mm) (h : OwVs B C L (List.replicate mm LT) bx.es (injs ks) I K) (hi : i ∉ I) :
    OwV B C L (.agg [.one, .one, .one, .one] [i64 k, st s, i64 m, .ref LT i 0 mm]) (inj (.mk k s m ks)) ([] ++ ([] ++ ([] ++ ((i :: I) ++ [])))) ([] ++ ([] ++ ([] ++ (K ++ [])))) :=
  .agg (.cons .c (.cons .c (.cons .c (.cons (.ref hL hbl hm h hi) .nil (by simp) (by simp)) (by simp) (by simp)) (by simp) (by simp)) (by simp) (by simp))
theorem rett_eq {C0 : Cx} {fn : Func} {e : TypeId} {l : Lay} {xs xs' : List D} {sc' : List Value} {v : V} (sc : List Value) (hx : CExt C0 C) (hdm : ∀ b, ¬ C0.Dm b) (hrv : RetV P f L fn.results.toList (v :: sc.map fun x => V.d (.c x))) (how : OwT C0.w0.heap.size C L e l v xs) (e1 : xs' = xs) (e2 : sc' = sc) : Fin C n (retTQ fn P C0.w0 e l xs' sc' .ret) f L := by
  subst e1; subst e2
  exact rett_ok _ hx hdm hrv how
end
end Go.Eng

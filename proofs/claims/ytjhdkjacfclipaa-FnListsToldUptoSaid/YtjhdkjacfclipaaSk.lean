/- Lists sorted by blocks; a call that turns a list of trees round, its trees told by a pool. -/
import Derived.Test.YtjhdkjacfclipaaSt
set_option linter.unusedVariables false
set_option linter.unusedSimpArgs false
namespace Go.Eng
/-- All blocks but the last have one length, each is sorted. -/
def Bks (k : Nat) (bl : List (List TD)) : Prop := ∀ x ∈ bl, x.length = k ∧ SrtP x
def BlkS (k : Nat) (ps : List TD) : Prop := ∃ (bl : List (List TD)) (la : List TD), ps = bl.flatten ++ la ∧ Bks k bl ∧ SrtP la ∧ la.length < k
theorem Bks.nil {k : Nat} : Bks k [] := fun x h => by cases h
theorem Bks.snoc {k : Nat} {bl : List (List TD)} {x : List TD} (h : Bks k bl) (hl : x.length = k) (hs : SrtP x) : Bks k (bl ++ [x]) := by
  intro y hy
  rcases List.mem_append.1 hy with hy | hy
  · exact h y hy
  · rw [List.mem_singleton.1 hy]; exact ⟨hl, hs⟩
theorem Bks.tail {k : Nat} {bl : List (List TD)} {x : List TD} (h : Bks k (x :: bl)) : Bks k bl := fun y hy => h y (by simp [hy])
/-- The blocks that are left, where two more fit or not. -/
theorem two_more {k N a : Nat} {done todo : List (List TD)} {la : List TD} (hk : 0 < k) (ht : Bks k todo) (hla : la.length < k) (hN : N = done.flatten.length + todo.flatten.length + la.length) (ha : a = done.flatten.length) (h : a + 2 * k ≤ N) : ∃ x y t, todo = x :: y :: t ∧ x.length = k ∧ y.length = k ∧ SrtP x ∧ SrtP y ∧ Bks k t := by
  rcases todo with _ | ⟨x, _ | ⟨y, t⟩⟩
  · simp only [List.flatten_cons, List.flatten_nil, List.length_append, List.length_nil] at hN; omega
  · have := (ht x (by simp)).1
    simp only [List.flatten_cons, List.flatten_nil, List.length_append, List.length_nil] at hN; omega
  · exact ⟨x, y, t, rfl, (ht x (by simp)).1, (ht y (by simp)).1, (ht x (by simp)).2, (ht y (by simp)).2, ht.tail.tail⟩
theorem few_left {k N a : Nat} {done todo : List (List TD)} {la : List TD} (hk : 0 < k) (ht : Bks k todo) (hla : la.length < k) (hN : N = done.flatten.length + todo.flatten.length + la.length) (ha : a = done.flatten.length) (h : N < a + 2 * k) : (todo = [] ∧ N < a + k) ∨ ∃ x, todo = [x] ∧ x.length = k ∧ SrtP x ∧ N = a + k + la.length := by
  rcases todo with _ | ⟨x, _ | ⟨y, t⟩⟩
  · left; simp only [List.flatten_cons, List.flatten_nil, List.length_append, List.length_nil] at hN; exact ⟨rfl, by omega⟩
  · right
    have h1 := ht x (by simp)
    simp only [List.flatten_cons, List.flatten_nil, List.length_append, List.length_nil] at hN
    exact ⟨x, rfl, h1.1, h1.2, by omega⟩
  · have h1 := (ht x (by simp)).1
    have h2 := (ht y (by simp)).1
    simp only [List.flatten_cons, List.flatten_nil, List.length_append, List.length_nil] at hN
    omega
theorem BlkS.whole {k : Nat} {ps : List TD} (h : BlkS k ps) (hk : ps.length ≤ k) (h0 : 0 < k) : SrtP ps := by
  obtain ⟨bl, la, rfl, h1, h2, h3⟩ := h
  rcases bl with _ | ⟨x, _ | ⟨y, t⟩⟩
  · simpa using h2
  · have := h1 x (by simp)
    simp at hk
    have : la = [] := List.eq_nil_of_length_eq_zero (by omega)
    subst this
    simpa using (h1 x (by simp)).2
  · have k1 := (h1 x (by simp)).1
    have k2 := (h1 y (by simp)).1
    simp at hk
    omega
theorem rawD_flat : ∀ (l : Lay) (cs : List Value), (rawD l cs).flat = true
  | .one, cs => by simp [rawD, D.flat]
  | .st fs, cs => by simp only [rawD, D.flat]; exact flats fs cs
where flats : ∀ (fs : List Lay) (cs : List Value), D.flats (rawDs fs cs) = true
  | [], _ => by simp [rawDs, D.flats]
  | f :: fr, cs => by simp [rawDs, D.flats, rawD_flat f, flats fr]
theorem DC_flat2 {S S' : Nat → Prop} {w : World} {d : D} {cs : List Value} (hf : d.flat = true) (h : DC S w d cs) : DC S' w d cs := Tr_DC _ _ [] (fun b hb => by cases hb) (DC_flat d cs hf h)
def V.flatv : V → Bool
  | .d x => D.flat x
  | _ => false
theorem VCs_flatv {β : Beta} {S S' : Nat → Prop} {w : World} : ∀ (vs : List V), (∀ v ∈ vs, v.flatv = true) → ∀ (fs : List Lay) (cs : List Value), VCs β S w fs vs cs → VCs β S' w fs vs cs
  | [], _, fs, cs, h => by simpa only [VCs] using h
  | v :: vs, hv, fs, cs, h => by
    simp only [VCs] at h ⊢
    obtain ⟨f, fr, c1, c2, e1, e2, e3, e4, e5⟩ := h
    refine ⟨f, fr, c1, c2, e1, e2, e3, ?_, VCs_flatv vs (fun u hu => hv u (by simp [hu])) fr c2 e5⟩
    have hv0 := hv v (by simp)
    cases v with
    | d d => simp only [VC] at e4 ⊢; exact DC_flat2 (by simpa [V.flatv] using hv0) e4
    | any => simp [V.flatv] at hv0
    | agg _ _ => simp [V.flatv] at hv0
    | tup _ => simp [V.flatv] at hv0
    | ref _ _ _ _ => simp [V.flatv] at hv0
    | ptr _ _ _ _ => simp [V.flatv] at hv0
    | fn _ _ => simp [V.flatv] at hv0
theorem HeapR_flat {β : Beta} {S S' : Nat → Prop} {w : World} {Ls : List Box} (hf : ∀ bx ∈ Ls, ∀ v ∈ bx.es, v.flatv = true) (h : HeapR β S w (someL Ls)) (hs : ∀ b, S' b → S b) : HeapR β S' w (someL Ls) := by
  refine ⟨fun i bx hi => ?_, h.inj, fun i bx b c hi hb h2 => h.own i bx b c hi hb (hs b h2), fun b hb => h.fz b (hs b hb), h.un, h.ad⟩
  obtain ⟨h0, h1⟩ := h.bx i bx hi
  refine ⟨h0, ?_⟩
  rcases h1 with h1 | ⟨b, Cp, cur, ds, q1, q2, q3, q4, q5, q6⟩
  · exact .inl h1
  · exact .inr ⟨b, Cp, cur, ds, q1, q2, q3, q4, VCs_flatv bx.es (fun v hv => hf bx (List.mem_of_getElem? (someL_get hi)) v hv) _ _ q5, q6⟩
/-- Raw cells of a tree read as the tree. -/
theorem Cv_raw {S : Nat → Prop} {w : World} {d : D} {l : Lay} {cs : List Value} {K : List Nat} (h : Tr w d cs K) (hl : cs.length = l.len) (hK : ∀ b ∈ K, S b) : Cv S w (rawD l cs) d := by
  intro S' w' h1 h2 cs' hcs
  have e := rawV_cells (β := fun _ => none) l cs cs' hl ((rawD_DC l cs cs').1 hcs)
  subst e
  exact Tr_DC _ _ K (fun b hb => h1 b (hK b hb)) (Tr_keep _ _ _ (fun b hb => h2 b (hK b hb)) h)
theorem Trs_each {w : World} {l : Lay} : ∀ (ds : List D) (css : List (List Value)) (K : List Nat), css.length = ds.length → (∀ c ∈ css, c.length = l.len) → Trs w (List.replicate ds.length l) ds css.flatten K → ∀ p ∈ ds.zip css, ∃ K', Tr w p.1 p.2 K' ∧ ∀ b ∈ K', b ∈ K
  | [], css, K, _, _, _, p, hp => by simp at hp
  | d :: ds, [], K, hl, _, _, p, hp => by simp at hl
  | d :: ds, c :: css, K, hl, hc, h, p, hp => by
    simp only [List.length_cons, List.replicate_succ, List.flatten_cons, Trs] at h
    obtain ⟨f, fr, c1, c2, M1, M2, e1, e2, e3, rfl, _, e5, e6⟩ := h
    injection e1 with e1 e1'
    subst e1; subst e1'
    obtain ⟨rfl, rfl⟩ := List.append_inj e2 (by rw [hc c (by simp), e3])
    rcases List.mem_cons.1 hp with rfl | hp
    · exact ⟨M1, e5, fun b hb => by simp [hb]⟩
    · obtain ⟨K', k1, k2⟩ := Trs_each ds css M2 (by simpa using hl) (fun c hc' => hc c (by simp [hc'])) e6 p hp
      exact ⟨K', k1, fun b hb => by simp [k2 b hb]⟩
section
variable {P : Program} {C : Cx} {n : Nat} {f : Fr} {L : Hp} {Q : AQ} {ops : Array Oper} {rest : List Oper} {dst : Option Tmp} {ty : TypeId} {pos : String} {after : Array Edge} {a : Act} {w w' : World} {β : Beta} {S S' : Nat → Prop} {i : Nat} {r : List Nat}
/-- A call over boxes of trees that stand apart: while it runs, the trees are read alone. -/
theorem AL_hsort {A : Type} {R : A → Prop} {pool : List (D × D)} (hT : CT P C) {Kb : List Nat} (hK : ∀ b ∈ Kb, ¬ C.Dm b ∧ ¬ C.S0 b ∧ b < C.w0.heap.size) (hP : ∀ p ∈ pool, Cv (· ∈ Kb) C.w0 p.1 p.2) {x : Operand} {args : Array Operand} {ts : Array TypeId} {k : FuncId} {hargs : List V} {Lin : List Box} {Lout : A → List Box} {m : Nat} (src : List Nat) (bs : A → List Box)
    (hx : ev f x = .d (.fn k [])) (hc : Callable P k) (hp : HCallE P k pool hargs Lin m R Lout) (ha : VxL (srcOf (src.map some)) (args.toList.map (ev f)) hargs) (hln : src.length = Lin.length) (hm : m = Lin.length) (hnd : nodupS (src.map some) = true) (hB : BxI L (srcOf (src.map some)) 0 Lin)
    (hlo : ∀ q, R q → Lin.length = (Lout q).length) (hO : ∀ q, R q → BxP (invS src) L src (Lout q) (bs q)) (hfl : ∀ q, R q → ∀ bx ∈ Lout q, ∀ v ∈ bx.es, v.flatv = true) (hd : dstOk n dst = true)
    (h : ∀ q, R q → AL P C n ops rest Q (updo f dst .any) (putL src (bs q) L)) : AL P C n ops (⟨dst, callV x args ts, ty, pos, after, none⟩ :: rest) Q f L := by
  intro a w β S hr
  refine wpList_plain rfl fun Kc hKc => ?_
  have hv := rel_ev hr x
  rw [hx] at hv
  obtain ⟨cv, c1, c2⟩ := VR_fn hv
  have hcv : cv = [] := by
    have := (DCs_len _ _ _ c2).1
    simpa [Lay.lens] using this
  subst hcv
  unfold Oper.wp
  rw [call_run hc c1, Oper.upon_enter]
  have heq : (args.map a.eval ++ ([] : List Value).toArray) = (args.toList.map a.eval).toArray := by
    show args.map a.eval ++ #[] = _
    rw [Array.append_empty, ← Array.toList_map, Array.toArray_toList]
  rw [heq]
  have hsz := hr.pres.size
  have hnS : ∀ b ∈ Kb, ¬ S b := fun b hb hs => by
    obtain ⟨k1, k2, k3⟩ := hK b hb
    rcases hr.fz b hs with h1 | h1 | h1
    · exact k2 h1
    · omega
    · exact k1 h1
  -- the wider state
  let C2 : Cx := ⟨C.w0, C.Dm, fun b => C.S0 b ∨ b ∈ Kb⟩
  let S2 : Nat → Prop := fun b => S b ∨ b ∈ Kb
  have lat : Later β S w β S2 w := ⟨fun _ _ h => h, fun _ h => .inl h, fun _ _ => rfl⟩
  have hr2 : Rel C2 n f L a w β S2 := by
    refine ⟨hr.df, hr.sz, fun i => VR_later lat (hr.fr i), ⟨fun i bx hi => BoxR_later lat (fun _ _ _ => rfl) (hr.hp.bx i bx hi), hr.hp.inj, ?_, ?_, hr.hp.un, hr.hp.ad⟩, hr.own, ?_, ?_, hr.pres⟩
    · intro i bx b c hi hb hs
      rcases hs with hs | hs
      · exact hr.hp.own i bx b c hi hb hs
      · obtain ⟨k1, k2, k3⟩ := hK b hs
        rcases hr.own i bx b c hi hb with h1 | h1
        · exact k1 h1
        · omega
    · intro b hb
      rcases hb with hb | hb
      · exact hr.hp.fz b hb
      · have := (hK b hb).2.2; omega
    · intro b hb
      rcases hb with hb | hb
      · rcases hr.fz b hb with h1 | h1 | h1
        · exact .inl (.inl h1)
        · exact .inr (.inl h1)
        · exact .inr (.inr h1)
      · exact .inl (.inr hb)
    · intro b hb
      rcases hb with hb | hb
      · exact .inl (hr.s0 b hb)
      · exact .inr hb
  have hpw : ∀ p ∈ pool, Cv S2 w p.1 p.2 := fun p hp => (hP p hp).later (fun b hb => .inr hb) fun b hb => hr.pres.block b (hK b hb).2.2 (hK b hb).1
  refine (hp w S2 (viewB (srcOf (src.map some)) β) _ (hT.tab hr |>.mono fun _ h => .inl h) hpw (hr2.hp.view hB (srcOf_nodup hnd) (srcOf_un hln)) (args_VR0 hr2 args.toList hargs ha fun j i e => viewB_some e)).mono ?_
  rintro en w' ⟨z, q, β', S', rfl, hq, g2, g3, g6, g7, g8⟩
  let S3 : Nat → Prop := fun b => S' b ∧ b ∉ Kb
  have g2' : HeapR β' S3 w' (someL (Lout q)) := HeapR_flat (hfl q hq) g2 fun b hb => hb.1
  have hr' := hr.hstay (S' := S3) hB hln hnd (hlo q hq) (hO q hq) g2' (fun j hj => g3 j (by omega)) (fun b hb => ⟨g6 b (.inl hb), fun hk => hnS b hk hb⟩) (fun b hb => by
    rcases g7 b hb.1 with (h1 | h1) | h1 | h1
    · exact .inl h1
    · exact absurd h1 hb.2
    · exact .inr (.inl h1)
    · exact .inr (.inr h1)) g8
  exact hKc _ _ (h q hq _ _ _ _ (hr'.puto (dstOk_spec hd) (VR_any ..)))
end
end Go.Eng

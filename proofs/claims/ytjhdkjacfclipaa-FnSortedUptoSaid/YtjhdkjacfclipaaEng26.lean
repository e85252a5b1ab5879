/- The engine: functions that act behind a place that they know nothing of; a list behind a place, put to by a function value. -/
import Derived.Test.YtjhdkjacfclipaaEng25
set_option linter.unusedVariables false
set_option linter.unusedSimpArgs false
namespace Go.Eng

/-- What stands behind a place: a state, the blocks of it, and the memory. -/
structure Jx (A : Type) where
  J : A → List Nat → World → Prop
  stab : ∀ a F w w', J a F w → (∀ b ∈ F, w'.heap[b]? = w.heap[b]?) → J a F w'
  lt : ∀ a F w, J a F w → ∀ b ∈ F, b < w.heap.size

/-- A function that acts behind the place alone. -/
def FCall {A : Type} (P : Program) (k : FuncId) (J : Jx A) (ds : List D) (a a' : A) : Prop :=
  ∀ (w : World) (S : Nat → Prop) (vs : List Value) (F : List Nat), (∀ b, S b → b < w.heap.size) → Tab P S w → All2 (RD S w) ds vs → J.J a F w → (∀ b ∈ F, ¬ S b) →
    Calls P k vs.toArray w fun en w' => ∃ x F', en = .returned x ∧ J.J a' F' w' ∧ (∀ b ∈ F', b ∈ F ∨ w.heap.size ≤ b) ∧ Pres (fun b => b ∈ F) w w'

section
variable {P : Program} {C : Cx} {n : Nat} {f : Fr} {L : Hp} {Q : AQ} {ops : Array Oper} {rest : List Oper} {dst : Option Tmp} {ty : TypeId} {pos : String} {after : Array Edge} {A : Type}

/-- The state behind the place, under a context. -/
structure Jh (J : Jx A) (C : Cx) (a : A) (F : List Nat) : Prop where
  j : J.J a F C.w0
  dm : ∀ b ∈ F, ¬ C.Dm b
  s0 : ∀ b ∈ F, ¬ C.S0 b
theorem Jh.ext {J : Jx A} {C' : Cx} {a : A} {F : List Nat} (h : Jh J C a F) (k : CExt C C') : Jh J C' a F := by
  have hl := J.lt _ _ _ h.j
  obtain ⟨h1, h2, h3⟩ := keep_ext k hl h.dm h.s0
  exact ⟨J.stab _ _ _ _ h.j h1, h2, h3⟩
theorem CT.marked {C' : Cx} {K : List Nat} (h : CT P C) (k : Mk C K C') (hK : ∀ b ∈ K, ¬ C.S0 b) : CT P C' := fun g hg => by
  obtain ⟨h1, h2, h3⟩ := h g hg
  have hl := TabIs_lt hg h3
  refine ⟨k.s0 g h1, fun hd => ?_, TabIs_same hg h3 (k.pres.block g hl fun hd => hd.elim h2 fun h4 => hK g h4 h1)⟩
  rcases k.dm g hd with h4 | h4
  · exact h2 h4
  · omega

/-- The two ways to name the function. -/
inductive JFn (f : Fr) (k : FuncId) : Operand → List Value → Prop
  | plain {x : Operand} : ev f x = .d (.fn k []) → JFn f k x []
  | clo {x : Operand} {xs : List Value} : ev f x = .d (.c (.func (.func k) #[] xs.toArray)) → JFn f k x xs
theorem RDs_c {S : Nat → Prop} {w : World} : ∀ (xs : List Value), xs.all Value.scalar = true → All2 (RD S w) (xs.map D.c) xs
  | [], _ => .nil
  | x :: xs, h => by
    simp only [List.all_cons, Bool.and_eq_true] at h
    refine .cons ⟨?_, ?_⟩ (RDs_c xs h.2)
    · rw [cells_scalar h.1]; unfold DC; exact ⟨rfl, h.1⟩
    · rw [isAgg_scalar h.1]; rfl

theorem AL_jcall (hT : CT P C) {x : Operand} {args : Array Operand} {ts : Array TypeId} {k : FuncId} {ds : List D} {xs : List Value} {J : Jx A} {F : List Nat} {a0 a1 : A} (hx : JFn f k x xs) (hxs : xs.all Value.scalar = true) (hc : Callable P k)
    (ha : args.toList.map (ev f) = ds.map V.d) (hp : FCall P k J (ds ++ xs.map D.c) a0 a1) (hJ : Jh J C a0 F) (hd : dstOk n dst = true)
    (h : ∀ C' F', Mk C F C' → Jh J C' a1 F' → (∀ b ∈ F', b ∈ F ∨ C.w0.heap.size ≤ b) → CT P C' → AL P C' n ops rest Q (updo f dst .any) L) : AL P C n ops (⟨dst, callV x args ts, ty, pos, after, none⟩ :: rest) Q f L := by
  intro a w β S hr
  refine wpList_plain rfl fun Kc hK => ?_
  have hlt := J.lt _ _ _ hJ.j
  have hsz := hr.pres.size
  have hjw : J.J a0 F w := J.stab _ _ _ _ hJ.j fun b hb => hr.pres.block b (hlt b hb) (hJ.dm b hb)
  have notS : ∀ b ∈ F, ¬ S b := fun b hb hs => by
    rcases hr.fz b hs with h3 | h3 | h3
    · exact hJ.s0 b hb h3
    · have := hlt b hb; omega
    · exact hJ.dm b hb h3
  have notB : ∀ b ∈ F, ∀ i bx c, L[i]? = some (some bx) → β i ≠ some (some (b, c)) := fun b hb i bx c hL hβ => by
    rcases hr.own i bx b c hL hβ with h3 | h3
    · exact hJ.dm b hb h3
    · have := hlt b hb; omega
  have hrun : (execOp a.eval ⟨dst, callV x args ts, ty, pos, after, none⟩).run P w = .ok (.enter k (args.map a.eval ++ xs.toArray)) w := by
    refine call_run hc ?_
    cases hx with
    | plain h =>
      have hv := rel_ev hr x
      rw [h] at hv
      obtain ⟨cv, k1, k2⟩ := VR_fn hv
      have hcv : cv = [] := by
        have := (DCs_len _ _ _ k2).1
        simpa [Lay.lens] using this
      subst hcv
      exact k1
    | clo h => exact eval_c hr h
  unfold Oper.wp
  rw [hrun, Oper.upon_enter]
  have hall := (args_RD hr args.toList ds ha).append (RDs_c (S := S) (w := w) xs hxs)
  have heq : (args.map a.eval ++ xs.toArray) = (args.toList.map a.eval ++ xs).toArray := by simp
  rw [heq]
  refine (hp w S _ F hr.hp.fz (hT.tab hr) hall hjw notS).mono ?_
  rintro e w' ⟨z, F', rfl, q1, q2, q3⟩
  have lat : Later β S w β S w' := ⟨fun _ _ h => h, fun _ h => h, fun b hb => q3.block b (hr.hp.fz b hb) fun h => notS b h hb⟩
  have hr2 : Rel ⟨w', boxBlk L β, S⟩ n f L a w' β S := by
    refine ⟨hr.df, hr.sz, fun i => VR_later lat (hr.fr i), ⟨fun i bx hi => BoxR_later lat (fun b c hb => q3.block b ((hr.hp.bx i bx hi).lt hb) fun h => notB b h i bx c hi hb) (hr.hp.bx i bx hi), hr.hp.inj, hr.hp.own, fun b hb => by have := hr.hp.fz b hb; have := q3.size; omega, hr.hp.un, hr.hp.ad⟩, fun i bx b c hL hb => .inl ⟨i, bx, c, hL, hb⟩, fun b hb => .inl hb, fun b hb => hb, Pres.refl _ _⟩
  have hmk : Mk C F ⟨w', boxBlk L β, S⟩ := by
    refine ⟨⟨q3.os.trans hr.pres.os, q3.tape.trans hr.pres.tape, q3.output.trans hr.pres.output, Nat.le_trans hsz q3.size, fun b hb hd => ?_⟩, fun b ⟨i, bx, c, hL, hb⟩ => hr.own i bx b c hL hb, hr.s0, hr.fz⟩
    exact (q3.block b (by omega) fun h => hd (.inr h)).trans (hr.pres.block b hb fun h => hd (.inl h))
  have hj' : Jh J ⟨w', boxBlk L β, S⟩ a1 F' := by
    refine ⟨q1, fun b hb ⟨i, bx, c, hL, hβ⟩ => ?_, fun b hb hs => ?_⟩
    · rcases q2 b hb with h3 | h3
      · exact notB b h3 i bx c hL hβ
      · have := (hr.hp.bx i bx hL).lt hβ; omega
    · rcases q2 b hb with h3 | h3
      · exact notS b h3 hs
      · have := hr.hp.fz b hs; omega
  exact hK _ _ (h _ F' hmk hj' (fun b hb => (q2 b hb).imp id fun h => by omega) (hT.marked hmk hJ.s0) _ _ _ _ (hr2.puto (dstOk_spec hd) (VR_any ..)))
end

/-! ### The start and the end -/
def retJ {A : Type} (fn : Func) (P : Program) (w0 : World) (J : Jx A) (F : List Nat) (a1 : A) (a : Act) (w' : World) : Prop :=
  a.defers = [] ∧ ∃ y, (results fn a.tmps).run P w' = .ok y w' ∧ ∃ F', J.J a1 F' w' ∧ (∀ b ∈ F', b ∈ F ∨ w0.heap.size ≤ b) ∧ Pres (fun b => b ∈ F) w0 w'
def retJQ {A : Type} (fn : Func) (P : Program) (w0 : World) (J : Jx A) (F : List Nat) (a1 : A) : AQ := fun x a w => ends x = true ∧ retJ fn P w0 J F a1 a w

section
variable {P : Program} {C : Cx} {n : Nat} {f : Fr} {L : Hp} {A : Type}
theorem jend {C0 : Cx} {fn : Func} {J : Jx A} {F F' : List Nat} {a1 : A} {ex : Exit} (he : ends ex = true) (hx : Mk C0 F C) (hdm : ∀ b, ¬ C0.Dm b) (hres : fn.results.toList = []) (hJ : Jh J C a1 F') (hs : ∀ b ∈ F', b ∈ F ∨ C0.w0.heap.size ≤ b) : Fin C n (retJQ fn P C0.w0 J F a1 ex) f L := by
  intro a w β S hr
  obtain ⟨ys, hy, hall⟩ := RetV_run (P := P) hr (rs := fn.results.toList) (vs := []) (by rw [hres]; exact .nil)
  have hrun := results_run (fn := fn) hy
  refine ⟨he, hr.df, _, hrun, F', J.stab _ _ _ _ hJ.j fun b hb => hr.pres.block b (J.lt _ _ _ hJ.j b hb) (hJ.dm b hb), hs, ?_⟩
  have hsz := hx.pres.size
  refine ⟨hr.pres.os.trans hx.pres.os, hr.pres.tape.trans hx.pres.tape, hr.pres.output.trans hx.pres.output, Nat.le_trans hsz hr.pres.size, fun b hb hd => ?_⟩
  rw [hr.pres.block b (by omega) fun h => by
    rcases hx.dm b h with h1 | h1
    · exact hdm b h1
    · omega]
  exact hx.pres.block b hb fun h => h.elim (hdm b) hd
theorem FCall_of {k : FuncId} {fn : Func} {c : Code} {J : Jx A} {ds : List D} {a0 a1 : A} (hf : P.funcs[k]? = some fn) (hb : fn.body = some c) (hn : fn.ntmps = n) (hlen : ds.length ≤ n)
    (h : ∀ C0 F, (∀ b, ¬ C0.Dm b) → CT P C0 → Jh J C0 a0 F → AC P C0 n c (retJQ fn P C0.w0 J F a1) (fr0 ds) []) : FCall P k J ds a0 a1 := by
  intro w S vs F hS hT hd hJ hF
  refine calls_of_wp hf hb ?_
  subst hn
  refine wp_mono (h ⟨w, fun _ => False, S⟩ F (fun _ h => h) (CT.start hT fun _ _ h => h) ⟨hJ, fun _ _ h => h, hF⟩ _ w _ S (fr0_rel hlen hS hd)) ?_
  rintro e a w' ⟨hend, h1, x, h2, F', h3, h4, h5⟩
  have fin : a.defers = [] ∧ ∃ v, (results fn a.tmps).run P w' = .ok v w' ∧ ∃ x F', Ending.returned v = .returned x ∧ J.J a1 F' w' ∧ (∀ b ∈ F', b ∈ F ∨ w.heap.size ≤ b) ∧ Pres (fun b => b ∈ F) w w' :=
    ⟨h1, x, h2, x, F', rfl, h3, h4, h5⟩
  cases e with
  | normal => exact fin
  | ret => exact fin
  | _ => cases hend
theorem Mk.self (C : Cx) (F : List Nat) : Mk C F C := Mk.refl C F
end

/-! ### A list behind a place -/
def dmN (b0 : Nat) (o : Option (Nat × Nat)) (b : Nat) : Prop := b = b0 ∨ ∃ c, o = some (b, c)
def blkO : Option (Nat × Nat) → List Nat
  | none => []
  | some (b, _) => [b]

section
variable {P : Program} {C : Cx} {n : Nat} {f : Fr} {L : Hp} {Q : AQ} {ops : Array Oper} {rest : List Oper} {dst : Option Tmp} {ty : TypeId} {pos : String} {after : Array Edge}

theorem Rel.ncall {a : Act} {w w' : World} {β : Beta} {S S' : Nat → Prop} (h : Rel C n f L a w β S) {i j b0 c0 : Nat} {bi bj bi' bj' : Box} {o o' : Option (Nat × Nat)} (hLi : L[i]? = some (some bi)) (hLj : L[j]? = some (some bj)) (hij : i ≠ j)
    (hβi : β i = some (some (b0, c0))) (hβj : β j = some o) (hp : Pres (dmN b0 o) w w') (ho : ∀ b c, o' = some (b, c) → (∃ c', o = some (b, c')) ∨ w.heap.size ≤ b) (hns : ∀ b c, o' = some (b, c) → ¬ S' b) (su : ∀ b, S b → S' b)
    (hS : ∀ b, S' b → b < w'.heap.size ∧ (S b ∨ w.heap.size ≤ b ∨ ∃ c, o = some (b, c))) (hbi : ∀ β' : Beta, β' i = some (some (b0, c0)) → β' L.length = some o' → BoxR β' S' w' i bi') (hbj : ∀ β' : Beta, β' L.length = some o' → BoxR β' S' w' L.length bj') (hni : bi'.ty.ad = bi.ty.ad := by rfl) (hnj : bj'.ty.ad = none := by rfl) :
    Rel C n f ((L.set i (some bi')).set j none ++ [some bj']) a w' (setβ β L.length o') S' := by
  have hi : i < L.length := lt_of_get hLi
  have hj : j < L.length := lt_of_get hLj
  have old : ∀ b, b < w.heap.size → (∀ c, β i ≠ some (some (b, c))) → (∀ c, β j ≠ some (some (b, c))) → w'.heap[b]? = w.heap[b]? := fun b hb h1 h2 => hp.block b hb (fun hd => by
    rcases hd with rfl | ⟨c, hc⟩
    · exact h1 c0 hβi
    · exact h2 c (by rw [hβj, hc]))
  have lat : Later β S w (setβ β L.length o') S' w' := by
    refine ⟨fun m oo hm => ?_, su, fun b hb => old b (h.hp.fz b hb) (fun c hc => h.hp.own i bi b c hLi hc hb) fun c hc => h.hp.own j bj b c hLj hc hb⟩
    by_cases e : m = L.length
    · subst e; rw [h.hp.un _ (Nat.le_refl _)] at hm; cases hm
    · rw [setβ_ne _ _ e]; exact hm
  have cases_ : ∀ m b, ((L.set i (some bi')).set j none ++ [some bj'])[m]? = some (some b) → (m < L.length ∧ m ≠ j ∧ (∃ b', L[m]? = some (some b')) ∧ ((m ≠ i ∧ L[m]? = some (some b)) ∨ (m = i ∧ bi' = b))) ∨ (m = L.length ∧ bj' = b) := fun m b hm => by
    rcases get_snoc _ _ _ _ hm with ⟨h1, h2⟩ | ⟨h1, h2⟩
    · rw [List.getElem?_set] at h2
      simp only [List.length_set] at h1 h2
      by_cases e : j = m
      · subst e
        rw [if_pos rfl, if_pos hj] at h2
        cases h2
      · rw [if_neg e, List.getElem?_set] at h2
        by_cases e2 : i = m
        · subst e2
          rw [if_pos rfl, if_pos hi] at h2
          injection h2 with h2; injection h2 with h2
          exact .inl ⟨h1, fun h => e h.symm, ⟨_, hLi⟩, .inr ⟨rfl, h2⟩⟩
        · rw [if_neg e2] at h2
          exact .inl ⟨h1, fun h => e h.symm, ⟨_, h2⟩, .inl ⟨fun h => e2 h.symm, h2⟩⟩
    · exact .inr ⟨by simpa using h1, by injection h2⟩
  have newb : ∀ b c, o' = some (b, c) → ∀ m, m < L.length → m ≠ j → ∀ bm cm, L[m]? = some (some bm) → β m ≠ some (some (b, cm)) := fun b c hob m hm hne bm cm hLm hbm => by
    rcases ho b c hob with ⟨c', hc'⟩ | hb
    · exact hne (h.hp.inj m j b bm bj cm c' hLm hLj hbm (by rw [hβj, hc']))
    · have := (h.hp.bx m bm hLm).lt hbm
      omega
  refine h.later lat ⟨?_, ?_, ?_, ?_, ?_, ?_⟩ ?_ ?_ ?_
  · intro m b hm
    rcases cases_ m b hm with ⟨h1, h2, _, h3 | ⟨rfl, rfl⟩⟩ | ⟨rfl, rfl⟩
    · exact BoxR_later lat (fun b' c hb => old b' ((h.hp.bx m b h3.2).lt hb) (fun c' hc' => h3.1 (h.hp.inj m i b' b bi c c' h3.2 hLi hb hc')) fun c' hc' => h2 (h.hp.inj m j b' b bj c c' h3.2 hLj hb hc')) (h.hp.bx m b h3.2)
    · exact hbi _ (by rw [setβ_ne _ _ (by omega)]; exact hβi) (setβ_self _ _ _)
    · exact hbj _ (setβ_self _ _ _)
  · intro m m' b b1 b2 c c' hm hm' hbm hbm'
    rcases cases_ m _ hm with ⟨h1, h2, ⟨y1, h3⟩, _⟩ | ⟨rfl, _⟩ <;> rcases cases_ m' _ hm' with ⟨k1, k2, ⟨y2, k3⟩, _⟩ | ⟨rfl, _⟩
    · rw [setβ_ne _ _ (by omega)] at hbm hbm'
      exact h.hp.inj m m' b y1 y2 c c' h3 k3 hbm hbm'
    · rw [setβ_ne _ _ (by omega)] at hbm
      rw [setβ_self] at hbm'
      injection hbm' with hbm'
      exact absurd hbm (newb b c' hbm' m h1 h2 _ _ h3)
    · rw [setβ_ne _ _ (by omega)] at hbm'
      rw [setβ_self] at hbm
      injection hbm with hbm
      exact absurd hbm' (newb b c hbm m' k1 k2 _ _ k3)
    · rfl
  · intro m b1 b c hm hbm hs
    rcases cases_ m _ hm with ⟨h1, h2, ⟨y1, h3⟩, _⟩ | ⟨rfl, _⟩
    · rw [setβ_ne _ _ (by omega)] at hbm
      rcases (hS b hs).2 with h4 | h4 | ⟨c4, h4⟩
      · exact h.hp.own m y1 b c h3 hbm h4
      · have := (h.hp.bx m y1 h3).lt hbm; omega
      · exact h2 (h.hp.inj m j b y1 bj c c4 h3 hLj hbm (by rw [hβj, h4]))
    · rw [setβ_self] at hbm
      injection hbm with hbm
      exact hns b c hbm hs
  · intro b hb
    exact (hS b hb).1
  · intro m hm
    simp at hm
    rw [setβ_ne _ _ (by omega)]
    exact h.hp.un m (by omega)
  · intro m b1 q hm hq
    rcases cases_ m b1 hm with ⟨h1, h2, _, h3 | ⟨rfl, rfl⟩⟩ | ⟨rfl, rfl⟩
    · rw [setβ_ne _ _ (by omega)]
      exact h.hp.ad m b1 q h3.2 hq
    · rw [setβ_ne _ _ (by omega)]
      exact h.hp.ad _ bi q hLi (by rw [← hni]; exact hq)
    · rw [hnj] at hq; cases hq
  · intro m b1 b c hm hbm
    rcases cases_ m _ hm with ⟨h1, h2, ⟨y1, h3⟩, _⟩ | ⟨rfl, _⟩
    · rw [setβ_ne _ _ (by omega)] at hbm
      exact h.own m y1 b c h3 hbm
    · rw [setβ_self] at hbm
      injection hbm with hbm
      rcases ho b c hbm with ⟨c', hc'⟩ | hb
      · exact h.own j bj b c' hLj (by rw [hβj, hc'])
      · have := h.pres.size
        exact .inr (by omega)
  · intro b hb
    rcases (hS b hb).2 with h1 | h1 | ⟨c1, h1⟩
    · exact h.fz b h1
    · have := h.pres.size
      exact .inr (.inl (by omega))
    · exact .inr (h.own j bj b c1 hLj (by rw [hβj, h1])).symm
  · refine ⟨hp.os.trans h.pres.os, hp.tape.trans h.pres.tape, hp.output.trans h.pres.output, by have := h.pres.size; have := hp.size; omega, fun b hb hd => ?_⟩
    have hsz := h.pres.size
    refine (old b (by omega) (fun c hc => ?_) fun c hc => ?_).trans (h.pres.block b hb hd)
    · rcases h.own i bi b c hLi hc with h1 | h1
      · exact hd h1
      · omega
    · rcases h.own j bj b c hLj hc with h1 | h1
      · exact hd h1
      · omega

end

/-- A list of texts behind a place. -/
def Jl (t0 e : TypeId) (b0 c0 : Nat) : Jx (List ByteArray) where
  J xs F w := ∃ o A cur, w.heap[b0]? = some (.cells cur t0 (0, 0)) ∧ cur.size = c0 ∧ 1 ≤ c0 ∧ c0 ≤ maxLen ∧ cur[0]? = some A ∧ LB (fun _ => False) w e .one (strs xs) A o ∧ (∀ c, o ≠ some (b0, c)) ∧ F = b0 :: blkO o
  stab := by
    rintro xs F w w' ⟨o, A, cur, h1, h2, h3, h4, h5, ⟨h6, h7, h8⟩, h9, rfl⟩ hs
    refine ⟨o, A, cur, (hs b0 (by simp)).trans h1, h2, h3, h4, h5, ⟨?_, ?_, fun _ _ _ h => h⟩, h9, rfl⟩
    · refine BoxR_later (β := β1 o) (S := fun _ => False) (w := w) ⟨fun _ _ h => h, fun _ h => h, fun _ h => h.elim⟩ (fun b c hb => hs b ?_) h6
      have : o = some (b, c) := by simpa using hb
      subst this
      simp [blkO]
    · exact VC_later (β := β1 o) (S := fun _ => False) (w := w) ⟨fun _ _ h => h, fun _ h => h, fun _ h => h.elim⟩ _ _ h7
  lt := by
    rintro xs F w ⟨o, A, cur, h1, h2, h3, h4, h5, ⟨h6, h7, h8⟩, h9, rfl⟩ b hb
    rcases List.mem_cons.1 hb with rfl | hb
    · exact (Array.getElem?_eq_some_iff.1 h1).1
    · cases o with
      | none => cases hb
      | some q =>
        obtain ⟨b', c'⟩ := q
        simp only [blkO, List.mem_singleton] at hb
        subst hb
        exact h6.lt (show β1 (some (b, c')) 0 = some (some (b, c')) by simp)
end Go.Eng

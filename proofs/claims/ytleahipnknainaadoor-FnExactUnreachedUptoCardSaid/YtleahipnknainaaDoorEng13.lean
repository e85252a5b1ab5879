/- The engine: a region that draws its order. One walk, in one order, serves all. -/
import Derived.Test.YtleahipnknainaaDoorEng12
set_option linter.unusedVariables false
set_option linter.unusedSimpArgs false
namespace Go.Eng

/-- Does it write the boxes? -/
def effOp : Op → Bool
  | .store .. | .alloc .. | .box .. | .makeSlice .. | .mapUpdate .. | .insert .. | .makeMap .. | .entryStore .. | .mapEntry .. => true
  | .call { callee := .builtin .append, .. } | .call { callee := .builtin .copy, .. } | .call { callee := .builtin .clear, .. } | .call { callee := .builtin .delete, .. } => true
  | _ => false
def readsHp : Op → Bool
  | .load .. | .lookup .. | .next .. | .range .. => true
  | op => effOp op

/-! ### The order of the edges -/
inductive Reach (ops : Array Oper) : Nat → Nat → Prop
  | one {i : Nat} {o : Oper} {e : Edge} : ops[i]? = some o → e ∈ o.after → Region.binds .any e = true → Reach ops e.on i
  | trans {i j k : Nat} : Reach ops i j → Reach ops j k → Reach ops i k

def lookM (t : List (Nat × Nat)) (i : Nat) : Nat :=
  match t with
  | [] => 0
  | (j, m) :: r => if j = i then m else lookM r i
def maskOf (t : List (Nat × Nat)) (es : List Edge) : Nat :=
  match es with
  | [] => 0
  | e :: r => (if Region.binds .any e then (1 <<< e.on) ||| lookM t e.on else 0) ||| maskOf t r
def masks (ops : Array Oper) : List Nat → List (Nat × Nat) → List (Nat × Nat)
  | [], t => t
  | i :: r, t => masks ops r ((i, match ops[i]? with | some o => maskOf t o.after.toList | none => 0) :: t)

section
variable (P : Program) (C : Cx) (n : Nat) (ops : Array Oper)

/-- The operation is passed by, or runs. -/
def runOr (o : Oper) (a : Act) (w : World) (K : Act → World → Prop) (Qc : Exit → Act → World → Prop) : Prop :=
  if Region.wanted o (yielded ops a.tmps) then o.wp P a w K Qc else K (a.put o.dst undef) w

/-- It yields v and leaves the boxes alone, whatever the frame holds beside what it looks at. -/
def StA (o : Oper) (f : Fr) (L : Hp) (v : V) : Prop :=
  ∀ C, CT P C → ∀ f', (∀ s ∈ o.looksAt ops, f' s = f s) → ∀ L' : Hp, (readsHp o.op = true → L' = L) → ∀ a w β S, Rel C n f' L' a w β S → ∀ K Qc, (∀ a' w' β' S', Rel C n (updo f' o.dst v) L' a' w' β' S' → K a' w') → runOr P ops o a w K Qc
/-- It yields v and turns the boxes into L2. -/
def StB (o : Oper) (f : Fr) (L : Hp) (v : V) (L2 : Hp) : Prop :=
  ∀ C, CT P C → ∀ f', (∀ s ∈ o.looksAt ops, f' s = f s) → ∀ a w β S, Rel C n f' L a w β S → ∀ K Qc, (∀ a' w' β' S', Rel C n (updo f' o.dst v) L2 a' w' β' S' → K a' w') → runOr P ops o a w K Qc
/-- It yields some v under a later context. -/
def StE (o : Oper) (f : Fr) (Z : Cx → V → Prop) : Prop :=
  ∀ f', (∀ s ∈ o.looksAt ops, f' s = f s) → ∀ L' a w β S, Rel C n f' L' a w β S → ∀ K Qc, (∀ C' v a' w' β' S', Z C' v → Rel C' n (updo f' o.dst v) L' a' w' β' S' → K a' w') → runOr P ops o a w K Qc
end

section
variable (P : Program) (n : Nat) (ops : Array Oper)
inductive DTi (Q : AQ) : Cx → List Nat → Fr → Hp → Prop
  | nil {C : Cx} {f : Fr} {L : Hp} : Fin C n (Q .normal) f L → DTi Q C [] f L
  | a {C : Cx} {i : Nat} {o : Oper} {v : V} {r : List Nat} {f : Fr} {L : Hp} : ops[i]? = some o → StA P n ops o f L v → DTi Q C r (updo f o.dst v) L → DTi Q C (i :: r) f L
  | b {C : Cx} {i : Nat} {o : Oper} {v : V} {r : List Nat} {f : Fr} {L L2 : Hp} : ops[i]? = some o → effOp o.op = true → StB P n ops o f L v L2 → DTi Q C r (updo f o.dst v) L2 → DTi Q C (i :: r) f L
  | e {C : Cx} {i : Nat} {o : Oper} {Z : Cx → V → Prop} {r : List Nat} {f : Fr} {L : Hp} : ops[i]? = some o → effOp o.op = false → StE P C n ops o f Z → (r.all fun j => (lookM (masks ops (i :: r) []) j).testBit i) = true → (∀ C' v, Z C' v → CT P C → CT P C') → (∀ C' v, Z C' v → DTi Q C' r (updo f o.dst v) L) → DTi Q C (i :: r) f L
abbrev DT (C : Cx) (Q : AQ) (σ : List Nat) (f : Fr) (L : Hp) : Prop := DTi P n ops Q C σ f L
end

section
variable (P : Program) (n : Nat) (ops : Array Oper)
structure Ent where
  i : Nat
  o : Oper
  v : V
  Lb : Hp
  La : Hp
  dn : Bool

def runF (f : Fr) : List Ent → Fr
  | [] => f
  | e :: es => runF (updo f e.o.dst e.v) es
def effE (e : Ent) : Bool := effOp e.o.op
def lastL (L : Hp) : List Ent → Hp
  | [] => L
  | e :: es => lastL (if effE e then e.La else L) es

def Chain : List Ent → Fr → Hp → Prop
  | [], _, _ => True
  | e :: es, f, L => ops[e.i]? = some e.o ∧ e.Lb = L ∧ ((effE e = false ∧ e.La = L ∧ (e.dn = true ∨ StA P n ops e.o f L e.v)) ∨ (effE e = true ∧ StB P n ops e.o f L e.v e.La)) ∧ Chain es (updo f e.o.dst e.v) e.La

theorem StB_of_A {o : Oper} {f : Fr} {L : Hp} {v : V} (h : StA P n ops o f L v) : StB P n ops o f L v L := fun C hT f' hf a w β S hr K Qc hK => h C hT f' hf L (fun _ => rfl) a w β S hr K Qc hK
end

/-! ### The order, second part -/
def GoodT (ops : Array Oper) (t : List (Nat × Nat)) : Prop := ∀ i j, (lookM t i).testBit j = true → Reach ops j i
theorem testBit_one_shift (k j : Nat) : (1 <<< k).testBit j = decide (j = k) := by
  rw [Nat.shiftLeft_eq, Nat.one_mul, Nat.testBit_two_pow]
  simp [eq_comm]
theorem maskOf_good {ops : Array Oper} {t : List (Nat × Nat)} (ht : GoodT ops t) {i : Nat} {o : Oper} (ho : ops[i]? = some o) : ∀ (es : List Edge), (∀ e ∈ es, e ∈ o.after) → ∀ j, (maskOf t es).testBit j = true → Reach ops j i
  | [], _, j, h => by simp [maskOf] at h
  | e :: r, hs, j, h => by
    simp only [maskOf, Nat.testBit_or, Bool.or_eq_true] at h
    rcases h with h | h
    · split at h
      · rename_i hb
        have h1 : Reach ops e.on i := .one ho (hs e (by simp)) hb
        simp only [Nat.testBit_or, Bool.or_eq_true, testBit_one_shift, decide_eq_true_eq] at h
        rcases h with h | h
        · subst h; exact h1
        · exact .trans (ht _ _ h) h1
      · simp at h
    · exact maskOf_good ht ho r (fun e he => hs e (by simp [he])) j h
theorem masks_good {ops : Array Oper} : ∀ (σ : List Nat) (t : List (Nat × Nat)), GoodT ops t → GoodT ops (masks ops σ t)
  | [], t, h => h
  | i :: r, t, h => by
    refine masks_good r _ ?_
    intro k j hj
    simp only [lookM] at hj
    split at hj
    · rename_i e
      subst e
      split at hj
      · rename_i o ho
        exact maskOf_good h ho _ (fun e he => by simpa using he) j hj
      · simp at hj
    · exact h k j hj

/-- Must one stand behind the other? -/
def clash (ops : Array Oper) (x y : Oper) : Bool :=
  (match x.dst with | some d => (y.looksAt ops).contains d || y.dst == some d | none => false) ||
  (match y.dst with | some d => (x.looksAt ops).contains d | none => false) ||
  (effOp x.op && readsHp y.op) || (effOp y.op && readsHp x.op)
def pairsOk (ops : Array Oper) (t : List (Nat × Nat)) : List Nat → Bool
  | [] => true
  | i :: r => (r.all fun j => match ops[i]?, ops[j]? with | some x, some y => !clash ops x y || (lookM t j).testBit i | _, _ => true) && pairsOk ops t r
def edgesOk (ops : Array Oper) : List Nat → List Nat → Bool
  | _, [] => true
  | done, i :: r => (match ops[i]? with | some o => o.after.toList.all fun e => !Region.binds .any e || done.contains e.on | none => false) && edgesOk ops (i :: done) r
def nodupN : List Nat → Bool
  | [] => true
  | i :: r => !r.contains i && nodupN r
def okDraw (ops : Array Oper) (σ : List Nat) : Bool :=
  Nat.ble σ.length ops.size && nodupN σ && (List.range ops.size).all (fun i => σ.contains i) && edgesOk ops [] σ && pairsOk ops (masks ops σ []) σ

theorem pairsOk_spec {ops : Array Oper} {t : List (Nat × Nat)} : ∀ {σ : List Nat}, pairsOk ops t σ = true → ∀ (p q i j : Nat) (x y : Oper), p < q → σ[p]? = some i → σ[q]? = some j → ops[i]? = some x → ops[j]? = some y → clash ops x y = true → (lookM t j).testBit i = true
  | [], _, p, q, i, j, x, y, _, h, _, _, _, _ => by simp at h
  | k :: r, hp, p, q, i, j, x, y, hpq, hi, hj, hx, hy, hc => by
    simp only [pairsOk, Bool.and_eq_true] at hp
    cases q with
    | zero => omega
    | succ q =>
      simp at hj
      cases p with
      | zero =>
        simp at hi
        subst hi
        have := List.all_eq_true.1 hp.1 j (List.mem_of_getElem? hj)
        simpa [hx, hy, hc] using this
      | succ p =>
        simp at hi
        exact pairsOk_spec hp.2 p q i j x y (by omega) hi hj hx hy hc
theorem edgesOk_spec {ops : Array Oper} : ∀ {σ done : List Nat}, edgesOk ops done σ = true → ∀ (p i : Nat) (o : Oper), σ[p]? = some i → ops[i]? = some o → ∀ e ∈ o.after, Region.binds .any e = true → e.on ∈ done ∨ ∃ q : Nat, q < p ∧ σ[q]? = some e.on
  | [], done, _, p, i, o, h, _, _, _, _ => by simp at h
  | k :: r, done, hp, p, i, o, hi, ho, e, he, hb => by
    simp only [edgesOk, Bool.and_eq_true] at hp
    cases p with
    | zero =>
      simp at hi
      subst hi
      rw [ho] at hp
      have := List.all_eq_true.1 hp.1 e (by simpa using he)
      simp [hb] at this
      exact .inl this
    | succ p =>
      simp at hi
      rcases edgesOk_spec hp.2 p i o hi ho e he hb with h | ⟨q, hq, h⟩
      · rcases List.mem_cons.1 h with h | h
        · exact .inr ⟨0, by omega, by simp [h]⟩
        · exact .inl h
      · exact .inr ⟨q + 1, by omega, by simpa using h⟩
theorem nodupN_spec : ∀ {σ : List Nat}, nodupN σ = true → ∀ (p q i : Nat), σ[p]? = some i → σ[q]? = some i → p = q
  | [], _, p, q, i, h, _ => by simp at h
  | k :: r, hp, p, q, i, h, h' => by
    simp only [nodupN, Bool.and_eq_true] at hp
    have hne : ∀ q, r[q]? = some k → False := fun q hq => by
      have := List.mem_of_getElem? hq
      simp [this] at hp
    cases p with
    | zero =>
      cases q with
      | zero => rfl
      | succ q => simp at h h'; subst h; exact (hne q h').elim
    | succ p =>
      cases q with
      | zero => simp at h h'; subst h'; exact (hne p h).elim
      | succ q => simp at h h'; rw [nodupN_spec hp.2 p q i h h']

theorem split_at {A : Type} {es : List A} {p : Nat} {e : A} (hp : es[p]? = some e) : ∃ a b, es = a ++ e :: b ∧ a.length = p := by
  have hlt := lt_of_get hp
  rw [List.getElem?_eq_getElem hlt] at hp
  injection hp with hp
  refine ⟨es.take p, es.drop (p + 1), ?_, by simp; omega⟩
  rw [← hp, ← List.drop_eq_getElem_cons hlt, List.take_append_drop]

/-! ### Lists of entries -/
theorem runF_app (f : Fr) : ∀ (a b : List Ent), runF f (a ++ b) = runF (runF f a) b
  | [], b => rfl
  | e :: a, b => runF_app _ a b
theorem lastL_app (L : Hp) : ∀ (a b : List Ent), lastL L (a ++ b) = lastL (lastL L a) b
  | [], b => rfl
  | e :: a, b => lastL_app _ a b
def hasDst (s : Nat) (e : Ent) : Bool := e.o.dst == some s
theorem runF_at : ∀ (es : List Ent) (f g : Fr) (s : Nat), f s = g s → runF f es s = runF g (es.filter (hasDst s)) s
  | [], f, g, s, h => h
  | e :: es, f, g, s, h => by
    simp only [runF, List.filter_cons]
    by_cases hd : hasDst s e = true
    · rw [if_pos hd]
      simp only [runF]
      have he : e.o.dst = some s := by simpa [hasDst] using hd
      exact runF_at es _ _ s (by simp only [he, updo, upd_self])
    · rw [if_neg hd]
      refine runF_at es _ _ s ?_
      cases h2 : e.o.dst with
      | none => exact h
      | some d =>
        have hne : s ≠ d := fun e' => hd (by simp [hasDst, h2, e'])
        simp only [updo, upd_ne _ _ _ _ hne]
        exact h
theorem lastL_at : ∀ (es : List Ent) (L : Hp), lastL L es = lastL L (es.filter effE)
  | [], L => rfl
  | e :: es, L => by
    simp only [lastL, List.filter_cons]
    by_cases hd : effE e = true
    · rw [if_pos hd, if_pos hd]; simp only [lastL, hd, if_true]; exact lastL_at es _
    · rw [if_neg hd, if_neg hd]; exact lastL_at es _

section
variable {P : Program} {C : Cx} {n : Nat} {ops : Array Oper} {Q : AQ}

theorem Chain_at : ∀ (a : List Ent) (e : Ent) (b : List Ent) (f : Fr) (L : Hp), Chain P n ops (a ++ e :: b) f L →
    ops[e.i]? = some e.o ∧ e.Lb = lastL L a ∧ ((effE e = false ∧ e.La = e.Lb ∧ (e.dn = true ∨ StA P n ops e.o (runF f a) e.Lb e.v)) ∨ (effE e = true ∧ StB P n ops e.o (runF f a) e.Lb e.v e.La))
  | [], e, b, f, L, h => by
    obtain ⟨h1, h2, h3, _⟩ := h
    subst h2
    exact ⟨h1, rfl, h3⟩
  | x :: a, e, b, f, L, h => by
    obtain ⟨h1, h2, h3, h4⟩ := h
    have := Chain_at a e b _ _ h4
    have hL : x.La = (if effE x then x.La else L) := by
      rcases h3 with ⟨h5, h6, _⟩ | ⟨h5, _⟩
      · rw [h5, h6]; rfl
      · rw [h5]; rfl
    simp only [lastL, runF]
    rw [← hL]
    exact this

/-- What has been done is closed under the edges. -/
def Closed (ops : Array Oper) (listed : Array Bool) : Prop := ∀ i o, listed.getD i false = true → ops[i]? = some o → ∀ e ∈ o.after, Region.binds .any e = true → listed.getD e.on false = true
theorem closed_reach {listed : Array Bool} (hc : Closed ops listed) {j i : Nat} (h : Reach ops j i) : listed.getD i false = true → listed.getD j false = true := by
  induction h with
  | one ho he hb => exact fun hl => hc _ _ hl ho _ he hb
  | trans _ _ ih1 ih2 => exact fun hl => ih1 (ih2 hl)
theorem ready_reach {listed : Array Bool} (hc : Closed ops listed) {j i : Nat} (h : Reach ops j i) : (∀ o, ops[i]? = some o → ∀ e ∈ o.after, Region.binds .any e = true → listed.getD e.on false = true) → listed.getD j false = true := by
  induction h with
  | one ho he hb => exact fun hr => hr _ ho _ he hb
  | trans h1 _ _ ih2 => exact fun hr => closed_reach hc h1 (ih2 hr)

def isL (listed : Array Bool) (e : Ent) : Bool := listed.getD e.i false

theorem filter_split (X : Ent → Bool) (listed : Array Bool) (a : List Ent) (e : Ent) (b : List Ent) (he : isL listed e = false) (ha : ∀ x ∈ a, X x = true → isL listed x = true) (hb : ∀ x ∈ b, X x = true → isL listed x = false) :
    ((a ++ e :: b).filter (isL listed)).filter X = a.filter X := by
  have h1 : (a.filter (isL listed)).filter X = a.filter X := by
    rw [List.filter_filter]
    refine List.filter_congr fun x hx => ?_
    cases h : X x with
    | false => simp
    | true => simp [ha x hx h]
  have h2 : (b.filter (isL listed)).filter X = [] := by
    rw [List.filter_filter, List.filter_eq_nil_iff]
    intro x hx h
    simp only [Bool.and_eq_true] at h
    rw [hb x hx h.1] at h
    cases h.2
  rw [List.filter_append, List.filter_append, h1, List.filter_cons, if_neg (by simp [he]), h2, List.append_nil]

theorem edgesOk_some {ops : Array Oper} : ∀ {σ done : List Nat}, edgesOk ops done σ = true → ∀ i ∈ σ, ∃ o, ops[i]? = some o
  | [], done, _, i, h => by cases h
  | k :: r, done, hp, i, h => by
    simp only [edgesOk, Bool.and_eq_true] at hp
    rcases List.mem_cons.1 h with rfl | h
    · cases ho : ops[i]? with
      | some o => exact ⟨o, rfl⟩
      | none => rw [ho] at hp; exact absurd hp.1 (by simp)
    · exact edgesOk_some hp.2 i h
theorem filter_le {p q : Nat → Bool} (h : ∀ k, q k = true → p k = true) : ∀ (l : List Nat), (l.filter q).length ≤ (l.filter p).length
  | [] => Nat.le_refl _
  | k :: l => by
    have := filter_le h l
    rw [List.filter_cons, List.filter_cons]
    cases hq : q k with
    | true => rw [if_pos rfl, if_pos (h k hq)]; simpa using this
    | false =>
      rw [if_neg (by simp)]
      split
      · simp; omega
      · exact this
theorem filter_lt {p q : Nat → Bool} (h : ∀ k, q k = true → p k = true) {j : Nat} (hp : p j = true) (hq : q j = false) : ∀ {l : List Nat}, j ∈ l → (l.filter q).length < (l.filter p).length
  | [], hj => by cases hj
  | k :: l, hj => by
    rw [List.filter_cons, List.filter_cons]
    by_cases e : j = k
    · subst e
      have := filter_le h l
      rw [if_neg (by simp [hq]), if_pos hp]
      simp
      omega
    · have := filter_lt h hp hq (l := l) (by
        rcases List.mem_cons.1 hj with h1 | h1
        · exact absurd h1 e
        · exact h1)
      cases hk : q k with
      | true => rw [if_pos rfl, if_pos (h k hk)]; simpa using this
      | false =>
        rw [if_neg (by simp)]
        split
        · simp; omega
        · exact this
theorem Chain_snoc : ∀ (es : List Ent) (e : Ent) (f : Fr) (L : Hp), Chain P n ops es f L → ops[e.i]? = some e.o → e.Lb = lastL L es → ((effE e = false ∧ e.La = lastL L es ∧ (e.dn = true ∨ StA P n ops e.o (runF f es) (lastL L es) e.v)) ∨ (effE e = true ∧ StB P n ops e.o (runF f es) (lastL L es) e.v e.La)) → Chain P n ops (es ++ [e]) f L
  | [], e, f, L, _, h1, h2, h3 => ⟨h1, h2, h3, trivial⟩
  | x :: es, e, f, L, hc, h1, h2, h3 => by
    obtain ⟨k1, k2, k3, k4⟩ := hc
    have hL : x.La = (if effE x then x.La else L) := by
      rcases k3 with ⟨h5, h6, _⟩ | ⟨h5, _⟩
      · rw [h5, h6]; rfl
      · rw [h5]; rfl
    simp only [lastL, runF] at h2 h3
    rw [← hL] at h2 h3
    exact ⟨k1, k2, k3, Chain_snoc es e _ _ k4 h1 h2 h3⟩

/-- From whatever part of es has been done the region goes on. -/
def DrawOk (P : Program) (n : Nat) (ops : Array Oper) (Q : AQ) (σ : List Nat) (es : List Ent) (f : Fr) (L : Hp) (C : Cx) : Prop :=
  ∀ (fuel : Nat) (listed : Array Bool) (a : Act) (w : World) (β : Beta) (S : Nat → Prop), listed.size = ops.size → Closed ops listed → (∀ j, listed.getD j false = true → j ∈ es.map (·.i)) → (∀ e ∈ es, e.dn = true → isL listed e = true) →
    (σ.filter fun k => !listed.getD k false).length ≤ fuel → Rel C n (runF f (es.filter (isL listed))) (lastL L (es.filter (isL listed))) a w β S → wpAny P .any ops Q fuel listed a w

theorem draw_main (hT : CT P C) {f : Fr} {L : Hp} {es : List Ent} {σ σ2 : List Nat} (hσ : σ = es.map (·.i) ++ σ2) (hch : Chain P n ops es f L) (hnd : nodupN σ = true) (hcov : ((List.range ops.size).all fun i => σ.contains i) = true) (hed : edgesOk ops [] σ = true) (hpr : pairsOk ops (masks ops σ []) σ = true)
    (H : (σ2 = [] ∧ Fin C n (Q .normal) (runF f es) (lastL L es)) ∨ (∃ i r o Z, σ2 = i :: r ∧ ops[i]? = some o ∧ effOp o.op = false ∧ StE P C n ops o (runF f es) Z ∧ (∀ j ∈ r, Reach ops i j) ∧ ∀ C' v, Z C' v → DrawOk P n ops Q σ (es ++ [⟨i, o, v, lastL L es, lastL L es, true⟩]) f L C')) : DrawOk P n ops Q σ es f L C := by
  have hgood := masks_good (ops := ops) σ [] (fun i j h => by simp [lookM] at h)
  have hidx : ∀ (p : Nat) (e : Ent), es[p]? = some e → σ[p]? = some e.i := fun p e h => by
    rw [hσ, List.getElem?_append_left (by simpa using lt_of_get h), List.getElem?_map, h]; rfl
  have noready : ∀ (listed : Array Bool), listed.size = ops.size → Region.ready .any ops listed = [] → ∀ i ∈ σ, listed.getD i false = true := by
    intro listed hsz hr
    have key : ∀ (p i : Nat), σ[p]? = some i → listed.getD i false = true := by
      intro p
      induction p using Nat.strongRecOn with
      | _ p ih =>
        intro i hp
        cases hl : listed.getD i false with
        | true => rfl
        | false =>
          exfalso
          obtain ⟨o, ho⟩ := edgesOk_some hed i (List.mem_of_getElem? hp)
          have : i ∈ Region.ready .any ops listed := by
            rw [mem_ready]
            refine ⟨?_, o, ho, fun ed hed' hb => ?_⟩
            · have hi : i < listed.size := by rw [hsz]; exact (Array.getElem?_eq_some_iff.1 ho).1
              rw [Array.getD_eq_getD_getElem?, Array.getElem?_eq_getElem hi] at hl ⊢
              exact hl
            · rcases edgesOk_spec hed p i o hp ho ed hed' hb with h | ⟨q, hq, h⟩
              · cases h
              · exact ih q hq ed.on h
          rw [hr] at this
          cases this
    intro i hi
    obtain ⟨p, hp⟩ := List.getElem?_of_mem hi
    exact key p i hp
  have apart : ∀ i ∈ es.map (·.i), i ∉ σ2 := by
    intro i hi hi2
    obtain ⟨p, hp⟩ := List.getElem?_of_mem hi
    obtain ⟨q, hq⟩ := List.getElem?_of_mem hi2
    have h1 := lt_of_get hp
    have := nodupN_spec hnd p ((es.map (·.i)).length + q) i (by rw [hσ, List.getElem?_append_left h1]; exact hp) (by rw [hσ, List.getElem?_append_right (by omega)]; simpa using hq)
    omega
  have fin : ∀ (listed : Array Bool) (a : Act) (w : World) (β : Beta) (S : Nat → Prop), (∀ j, listed.getD j false = true → j ∈ es.map (·.i)) → (∀ i ∈ σ, listed.getD i false = true) → Rel C n (runF f (es.filter (isL listed))) (lastL L (es.filter (isL listed))) a w β S → Q .normal a w := by
    intro listed a w β S hsub hall hr
    rcases H with ⟨_, hQ⟩ | ⟨i, r, o, Z, h1, _⟩
    · rw [List.filter_eq_self.2 fun e he => hall e.i (by rw [hσ]; exact List.mem_append_left _ (List.mem_map.2 ⟨e, he, rfl⟩))] at hr
      exact hQ _ _ β S hr
    · have := hsub i (hall i (by rw [hσ, h1]; simp))
      exact absurd (by rw [h1]; simp) (apart i this)
  intro fuel
  induction fuel with
  | zero =>
    intro listed a w β S hsz hcl hsub hdn hcount hr
    have hall : ∀ i ∈ σ, listed.getD i false = true := by
      intro e he
      cases hl : listed.getD e false with
      | true => rfl
      | false =>
        have : e ∈ σ.filter fun k => !listed.getD k false := List.mem_filter.2 ⟨he, by simp [hl]⟩
        have := List.length_pos_of_mem this
        omega
    refine ⟨?_, fin listed a w β S hsub hall hr⟩
    unfold Region.ready
    rw [List.filter_eq_nil_iff]
    intro i hi hbad
    have hi' : i < ops.size := by simpa using hi
    have hcon := List.all_eq_true.1 hcov i (by simpa using hi')
    have hmem : i ∈ σ := by simpa using hcon
    have := hall i hmem
    have hi2 : i < listed.size := by omega
    simp only [Bool.and_eq_true, Bool.not_eq_true'] at hbad
    rw [Array.getD_eq_getD_getElem?, Array.getElem?_eq_getElem hi2] at this hbad
    simp at this
    simp [this] at hbad
  | succ fuel ih =>
    intro listed a w β S hsz hcl hsub hdn hcount hr
    refine ⟨fun hn => fin listed a w β S hsub (noready listed hsz hn) hr, fun i hi => ?_⟩
    obtain ⟨hnl, o, ho, hrdy⟩ := mem_ready.1 hi
    have hilt : i < listed.size := by rw [hsz]; exact (Array.getElem?_eq_some_iff.1 ho).1
    have hnl' : listed.getD i false = false := by
      rw [Array.getD_eq_getD_getElem?, Array.getElem?_eq_getElem hilt] at hnl ⊢
      exact hnl
    have hmemσ : i ∈ σ := by
      have := List.all_eq_true.1 hcov i (by rw [← hsz]; simpa using hilt)
      simpa using this
    let listed' := listed.setIfInBounds i true
    have hset : ∀ k, listed'.getD k false = (listed.getD k false || k == i) := by
      intro k
      simp only [listed', Array.getD_eq_getD_getElem?, Array.getElem?_setIfInBounds]
      by_cases hk : i = k
      · subst hk; simp [hilt]
      · have : ¬ k = i := fun h => hk h.symm
        rw [if_neg hk]; simp [this]
    have hcount' : (σ.filter fun x => !listed'.getD x false).length ≤ fuel := by
      have := filter_lt (p := fun k => !listed.getD k false) (q := fun k => !listed'.getD k false) (fun k h => by
        rw [hset] at h
        simp at h ⊢
        exact h.1) (j := i) (by simp [hnl']) (by simp [hset]) hmemσ
      omega
    have hcl' : Closed ops listed' := by
      intro j oj hj hoj ed hed' hb
      rw [hset]
      by_cases hje : j = i
      · subst hje
        rw [ho] at hoj
        injection hoj with hoj
        subst hoj
        simp [hrdy ed hed' hb]
      · have : listed.getD j false = true := by
          rw [hset] at hj
          simpa [hje] using hj
        simp [hcl j oj this hoj ed hed' hb]
    have mem_ops : ∀ x ∈ es, ops[x.i]? = some x.o := by
      intro x hx
      obtain ⟨s, t, hst⟩ := List.append_of_mem hx
      have hch2 := hch
      rw [hst] at hch2
      exact (Chain_at s x t f L hch2).1
    suffices hgo : runOr P ops o a w (wpAny P .any ops Q fuel listed') Q by
      unfold wpOp
      rw [ho]
      simp only
      unfold runOr at hgo
      split
      · rename_i hw
        rw [if_pos hw] at hgo
        exact .inl hgo
      · rename_i hw
        rw [if_neg hw] at hgo
        exact hgo
    rw [hσ] at hmemσ
    rcases List.mem_append.1 hmemσ with hmem | hmem2
    · obtain ⟨e, he, hei⟩ := List.mem_map.1 hmem
      obtain ⟨p, hp⟩ := List.getElem?_of_mem he
      obtain ⟨a0, b0, hsplit, hlen⟩ := split_at hp
      have hch' := hch
      rw [hsplit] at hch'
      obtain ⟨hoe, hLb, hst⟩ := Chain_at a0 e b0 f L hch'
      subst hei
      rw [ho] at hoe
      injection hoe with hoe
      subst hoe
      have hel : isL listed e = false := hnl'
      -- entries before and behind
      have before : ∀ x ∈ a0, clash ops x.o e.o = true → isL listed x = true := by
        intro x hx hc
        obtain ⟨q, hq⟩ := List.getElem?_of_mem hx
        have hqlt := lt_of_get hq
        have hq' : es[q]? = some x := by rw [hsplit, List.getElem?_append_left hqlt]; exact hq
        have hxo : ops[x.i]? = some x.o := mem_ops x (by rw [hsplit]; simp [hx])
        have hbit := pairsOk_spec hpr q p x.i e.i x.o e.o (by omega) (hidx q x hq') (hidx p e hp) hxo ho hc
        exact ready_reach hcl (hgood _ _ hbit) (fun o' ho' e' he' hb' => by rw [ho] at ho'; injection ho' with ho'; subst ho'; exact hrdy e' he' hb')
      have behind : ∀ x ∈ b0, clash ops e.o x.o = true → isL listed x = false := by
        intro x hx hc
        obtain ⟨q, hq⟩ := List.getElem?_of_mem hx
        have hq' : es[p + 1 + q]? = some x := by
          rw [hsplit, List.getElem?_append_right (by omega)]
          rw [show p + 1 + q - a0.length = q + 1 by omega]
          simpa using hq
        have hxo : ops[x.i]? = some x.o := mem_ops x (by rw [hsplit]; simp [hx])
        have hbit := pairsOk_spec hpr p (p + 1 + q) e.i x.i e.o x.o (by omega) (hidx p e hp) (hidx (p + 1 + q) x hq') ho hxo hc
        cases hl : isL listed x with
        | false => rfl
        | true =>
          have := closed_reach hcl (hgood _ _ hbit) hl
          simp only [isL] at hel
          rw [this] at hel
          cases hel
      -- what is looked at is as in the one walk
      have clash_l : ∀ x : Ent, ∀ s ∈ e.o.looksAt ops, hasDst s x = true → clash ops x.o e.o = true ∧ clash ops e.o x.o = true := by
        intro x s hs hx
        have hx' : x.o.dst = some s := by simpa [hasDst] using hx
        simp [clash, hx', hs]
      have clash_d : ∀ x : Ent, ∀ d, e.o.dst = some d → hasDst d x = true → clash ops e.o x.o = true := by
        intro x d hd hx
        have hx' : x.o.dst = some d := by simpa [hasDst] using hx
        simp [clash, hx', hd]
      have clash_e : readsHp e.o.op = true → ∀ x : Ent, effE x = true → clash ops x.o e.o = true ∧ clash ops e.o x.o = true := by
        intro hrd x hx
        have hx' : effOp x.o.op = true := hx
        simp [clash, hx', hrd]
      have look : ∀ s ∈ e.o.looksAt ops, runF f (es.filter (isL listed)) s = runF f a0 s := by
        intro s hs
        rw [runF_at _ f f s rfl, runF_at a0 f f s rfl, hsplit, filter_split (hasDst s) listed a0 e b0 hel (fun x hx hd => before x hx (clash_l x s hs hd).1) (fun x hx hd => behind x hx (clash_l x s hs hd).2)]
      have heap : readsHp e.o.op = true → lastL L (es.filter (isL listed)) = e.Lb := by
        intro hrd
        rw [hLb, lastL_at, lastL_at a0, hsplit, filter_split effE listed a0 e b0 hel (fun x hx hd => before x hx (clash_e hrd x hd).1) (fun x hx hd => behind x hx (clash_e hrd x hd).2)]
      have hL' : ∀ x ∈ es, isL listed' x = (isL listed x || x.i == e.i) := by
        intro x hx
        exact hset x.i
      have hother : ∀ x ∈ es, x.i = e.i → x = e := by
        intro x hx hxi
        obtain ⟨q, hq⟩ := List.getElem?_of_mem hx
        have := nodupN_spec hnd q p e.i (by rw [← hxi]; exact hidx q x hq) (hidx p e hp)
        subst this
        rw [hq] at hp
        injection hp
      have hne_a : ∀ x ∈ a0, x.i ≠ e.i := by
        intro x hx hxi
        obtain ⟨q, hq⟩ := List.getElem?_of_mem hx
        have hqlt := lt_of_get hq
        have hq' : es[q]? = some x := by rw [hsplit, List.getElem?_append_left hqlt]; exact hq
        have := nodupN_spec hnd q p e.i (by rw [← hxi]; exact hidx q x hq') (hidx p e hp)
        omega
      have hne_b : ∀ x ∈ b0, x.i ≠ e.i := by
        intro x hx hxi
        obtain ⟨q, hq⟩ := List.getElem?_of_mem hx
        have hq' : es[p + 1 + q]? = some x := by
          rw [hsplit, List.getElem?_append_right (by omega), show p + 1 + q - a0.length = q + 1 by omega]
          simpa using hq
        have := nodupN_spec hnd (p + 1 + q) p e.i (by rw [← hxi]; exact hidx (p + 1 + q) x hq') (hidx p e hp)
        omega
      have hfl' : es.filter (isL listed') = a0.filter (isL listed) ++ e :: b0.filter (isL listed) := by
        have h1 : a0.filter (isL listed') = a0.filter (isL listed) := List.filter_congr fun x hx => by rw [hL' x (by rw [hsplit]; simp [hx])]; simp [hne_a x hx]
        have h2 : b0.filter (isL listed') = b0.filter (isL listed) := List.filter_congr fun x hx => by rw [hL' x (by rw [hsplit]; simp [hx])]; simp [hne_b x hx]
        have h3 : isL listed' e = true := by rw [hL' e he]; simp
        conv => lhs; rw [hsplit]
        rw [List.filter_append, List.filter_cons, if_pos h3, h1, h2]
      have hfl : es.filter (isL listed) = a0.filter (isL listed) ++ b0.filter (isL listed) := by
        conv => lhs; rw [hsplit]
        rw [List.filter_append, List.filter_cons, if_neg (by simp [hel])]
      have hF' : runF f (es.filter (isL listed')) = updo (runF f (es.filter (isL listed))) e.o.dst e.v := by
        funext s
        by_cases hs : e.o.dst = some s
        · have hb : (b0.filter (isL listed)).filter (hasDst s) = [] := by
            rw [List.filter_filter, List.filter_eq_nil_iff]
            intro x hx h
            simp only [Bool.and_eq_true] at h
            have := behind x hx (clash_d x s hs h.1)
            rw [this] at h
            cases h.2
          rw [hfl', runF_app]
          simp only [runF, hs, updo]
          rw [runF_at (b0.filter (isL listed)) _ _ s rfl, hb]
          simp only [runF, upd_self]
        · have hd : hasDst s e = false := by simp [hasDst, hs]
          have h1 : runF f (es.filter (isL listed')) s = runF f (es.filter (isL listed)) s := by
            rw [runF_at _ f f s rfl, runF_at (es.filter (isL listed)) f f s rfl, hfl', hfl]
            rw [List.filter_append, List.filter_append, List.filter_cons, if_neg (by simp [hd])]
          rw [h1]
          cases h2 : e.o.dst with
          | none => rfl
          | some d =>
            have : s ≠ d := fun e' => hs (by rw [h2, e'])
            simp only [updo, upd_ne _ _ _ _ this]
      have hLL' : lastL L (es.filter (isL listed')) = if effE e then e.La else lastL L (es.filter (isL listed)) := by
        cases hef : effE e with
        | true =>
          have hrd : readsHp e.o.op = true := by
            have : effOp e.o.op = true := hef
            unfold readsHp
            split <;> first | rfl | exact this
          have hb : (b0.filter (isL listed)).filter effE = [] := by
            rw [List.filter_filter, List.filter_eq_nil_iff]
            intro x hx h
            simp only [Bool.and_eq_true] at h
            have := behind x hx (clash_e hrd x h.1).2
            rw [this] at h
            cases h.2
          rw [hfl', lastL_app]
          simp only [lastL, hef, if_true]
          rw [lastL_at, hb]
          rfl
        | false =>
          rw [lastL_at, lastL_at (es.filter (isL listed)), hfl', hfl]
          rw [List.filter_append, List.filter_append, List.filter_cons, if_neg (by simp [hef])]
          rfl
      have next : ∀ a' w' β' S', Rel C n (updo (runF f (es.filter (isL listed))) e.o.dst e.v) (if effE e then e.La else lastL L (es.filter (isL listed))) a' w' β' S' → wpAny P .any ops Q fuel listed' a' w' := by
        intro a' w' β' S' hr'
        refine ih listed' a' w' β' S' (by simp [listed', hsz]) hcl' ?_ ?_ hcount' ?_
        · intro j hj
          rw [hset] at hj
          simp only [Bool.or_eq_true, beq_iff_eq] at hj
          rcases hj with hj | hj
          · exact hsub j hj
          · rw [hj]; exact List.mem_map.2 ⟨e, he, rfl⟩
        · intro x hx hd
          rw [hL' x hx, hdn x hx hd]
          rfl
        · rw [hF', hLL']
          exact hr'
      rcases hst with ⟨k1, k2, k3⟩ | ⟨k1, k2⟩
      · rcases k3 with k3 | k3
        · rw [hdn e he k3] at hel
          cases hel
        · refine k3 C hT _ look _ heap a w β S hr _ _ fun a' w' β' S' hr' => next a' w' β' S' ?_
          rw [k1]
          exact hr'
      · have hrd : readsHp e.o.op = true := by
          have : effOp e.o.op = true := k1
          unfold readsHp
          split <;> first | rfl | exact this
        have hr2 := hr
        rw [heap hrd] at hr2
        refine k2 C hT _ look a w β S hr2 _ _ fun a' w' β' S' hr' => next a' w' β' S' ?_
        rw [k1]
        exact hr'
    · rcases H with ⟨h1, _⟩ | ⟨i0, r, o0, Z, h1, ho0, heff, hst, hreach, hcont⟩
      · rw [h1] at hmem2
        cases hmem2
      · rw [h1] at hmem2
        have hni : i0 ∉ es.map (·.i) := fun h => apart i0 h (by rw [h1]; simp)
        rcases List.mem_cons.1 hmem2 with rfl | hmem2
        · rw [ho] at ho0
          injection ho0 with ho0
          subst ho0
          have look : ∀ s ∈ o.looksAt ops, runF f (es.filter (isL listed)) s = runF f es s := by
            intro s hs
            rw [runF_at _ f f s rfl, runF_at es f f s rfl]
            have : (es.filter (isL listed)).filter (hasDst s) = es.filter (hasDst s) := by
              rw [List.filter_filter]
              refine List.filter_congr fun x hx => ?_
              cases h : hasDst s x with
              | false => simp
              | true =>
                obtain ⟨q, hq⟩ := List.getElem?_of_mem hx
                have hx' : x.o.dst = some s := by simpa [hasDst] using h
                have hbit := pairsOk_spec hpr q (es.map (·.i)).length x.i i x.o o (by simpa using lt_of_get hq) (hidx q x hq) (by rw [hσ, List.getElem?_append_right (by omega), h1]; simp) (mem_ops x hx) ho (by simp [clash, hx', hs])
                have := ready_reach hcl (hgood _ _ hbit) (fun o' ho' e' he' hb' => by rw [ho] at ho'; injection ho' with ho'; subst ho'; exact hrdy e' he' hb')
                simp [isL, this]
            rw [this]
          refine hst _ look _ a w β S hr _ _ fun C' v a' w' β' S' hz hr' => ?_
          have hL' : ∀ x ∈ es, isL listed' x = isL listed x := by
            intro x hx
            have : ¬ x.i = i := fun h => hni (h ▸ List.mem_map.2 ⟨x, hx, rfl⟩)
            show listed'.getD x.i false = _
            rw [hset]
            simp [this, isL]
          have hfl : (es ++ [(⟨i, o, v, lastL L es, lastL L es, true⟩ : Ent)]).filter (isL listed') = es.filter (isL listed) ++ [⟨i, o, v, lastL L es, lastL L es, true⟩] := by
            have h3 : isL listed' (⟨i, o, v, lastL L es, lastL L es, true⟩ : Ent) = true := by
              show listed'.getD i false = true
              rw [hset]
              simp
            rw [List.filter_append, List.filter_congr hL', List.filter_cons, if_pos h3]
            rfl
          refine hcont C' v hz fuel listed' a' w' β' S' (by simp [listed', hsz]) hcl' ?_ ?_ hcount' ?_
          · intro j hj
            rw [hset] at hj
            simp only [Bool.or_eq_true, beq_iff_eq] at hj
            rcases hj with hj | hj
            · rw [List.map_append]; exact List.mem_append_left _ (hsub j hj)
            · rw [hj]; simp
          · intro x hx hd
            rcases List.mem_append.1 hx with hx | hx
            · rw [hL' x hx]; exact hdn x hx hd
            · rw [List.mem_singleton] at hx
              subst hx
              show listed'.getD i false = true
              rw [hset]
              simp
          · rw [hfl, runF_app, lastL_app]
            simp only [runF, lastL, effE, heff]
            exact hr'
        · have := ready_reach hcl (hreach i hmem2) (fun o' ho' e' he' hb' => by rw [ho] at ho'; injection ho' with ho'; subst ho'; exact hrdy e' he' hb')
          exact absurd (hsub i0 this) hni

theorem DrawOk_snoc {f : Fr} {L : Hp} {es : List Ent} {σ : List Nat} {e : Ent} (hi : e.i ∉ es.map (·.i)) (hd : e.dn = false) (h : DrawOk P n ops Q σ (es ++ [e]) f L C) : DrawOk P n ops Q σ es f L C := by
  intro fuel listed a w β S hsz hcl hsub hdn hcount hr
  have hne : isL listed e = false := by
    cases h : isL listed e with
    | false => rfl
    | true => exact absurd (hsub _ h) hi
  refine h fuel listed a w β S hsz hcl (fun j hj => by rw [List.map_append]; exact List.mem_append_left _ (hsub j hj)) ?_ hcount ?_
  · intro x hx hd'
    rcases List.mem_append.1 hx with hx | hx
    · exact hdn x hx hd'
    · rw [List.mem_singleton] at hx
      subst hx
      rw [hd] at hd'
      cases hd'
  · rw [List.filter_append, List.filter_cons, if_neg (by simp [hne])]
    simpa using hr

theorem DT_draw {σ : List Nat} (hnd : nodupN σ = true) (hcov : ((List.range ops.size).all fun i => σ.contains i) = true) (hed : edgesOk ops [] σ = true) (hpr : pairsOk ops (masks ops σ []) σ = true) {σ2 : List Nat} {f' : Fr} {L' : Hp} (h : DTi P n ops Q C σ2 f' L') :
    CT P C → ∀ (es : List Ent) (f : Fr) (L : Hp), Chain P n ops es f L → f' = runF f es → L' = lastL L es → σ = es.map (·.i) ++ σ2 → DrawOk P n ops Q σ es f L C := by
  have apart : ∀ (es : List Ent) (i : Nat) (r : List Nat), σ = es.map (·.i) ++ i :: r → i ∉ es.map (·.i) := by
    intro es i r hσ hi
    obtain ⟨p, hp⟩ := List.getElem?_of_mem hi
    have h1 := lt_of_get hp
    have := nodupN_spec hnd p (es.map (·.i)).length i (by rw [hσ, List.getElem?_append_left h1]; exact hp) (by rw [hσ, List.getElem?_append_right (by omega)]; simp)
    omega
  induction h with
  | nil h =>
    intro hT es f L hch hf hL hσ
    subst hf; subst hL
    exact draw_main hT hσ hch hnd hcov hed hpr (.inl ⟨rfl, h⟩)
  | @a C i o v r f' L' ho hs _ ih =>
    intro hT es f L hch hf hL hσ
    subst hf; subst hL
    refine DrawOk_snoc (e := ⟨i, o, v, lastL L es, lastL L es, false⟩) (apart es i r hσ) rfl (ih hT (es ++ [⟨i, o, v, lastL L es, lastL L es, false⟩]) f L (Chain_snoc es ⟨i, o, v, lastL L es, lastL L es, false⟩ f L hch ho rfl ?_) (by rw [runF_app]; rfl) (by rw [lastL_app]; simp only [lastL]; split <;> rfl) (by rw [hσ]; simp))
    cases e : effOp o.op with
    | false => exact .inl ⟨e, rfl, .inr hs⟩
    | true => exact .inr ⟨e, StB_of_A P n ops hs⟩
  | @b C i o v r f' L' L2 ho he hs _ ih =>
    intro hT es f L hch hf hL hσ
    subst hf; subst hL
    exact DrawOk_snoc (e := ⟨i, o, v, lastL L es, L2, false⟩) (apart es i r hσ) rfl (ih hT (es ++ [⟨i, o, v, lastL L es, L2, false⟩]) f L (Chain_snoc es ⟨i, o, v, lastL L es, L2, false⟩ f L hch ho rfl (.inr ⟨he, hs⟩)) (by rw [runF_app]; rfl) (by rw [lastL_app]; simp only [lastL, effE, he, if_true]) (by rw [hσ]; simp))
  | @e C i o Z r f' L' ho he hs hall hct _ ih =>
    intro hT es f L hch hf hL hσ
    subst hf; subst hL
    have hgood := masks_good (ops := ops) (i :: r) [] (fun i j h => by simp [lookM] at h)
    refine draw_main hT hσ hch hnd hcov hed hpr (.inr ⟨i, r, o, Z, rfl, ho, he, hs, fun j hj => hgood j i (List.all_eq_true.1 hall j hj), fun C' v hz => ?_⟩)
    exact ih C' v hz (hct C' v hz hT) (es ++ [⟨i, o, v, lastL L es, lastL L es, true⟩]) f L (Chain_snoc es ⟨i, o, v, lastL L es, lastL L es, true⟩ f L hch ho rfl (.inl ⟨he, rfl, .inl rfl⟩)) (by rw [runF_app]; rfl) (by rw [lastL_app]; simp only [lastL, effE, he]; rfl) (by rw [hσ]; simp)

theorem AC_draw (hT : CT P C) {id : Nat} {f : Fr} {L : Hp} (hm : P.follows .mixedOrders = true) (σ : List Nat) (hok : okDraw ops σ = true) (h : DT P n ops C Q σ f L) : AC P C n (.region id ops true) Q f L := by
  simp only [okDraw, Bool.and_eq_true] at hok
  obtain ⟨⟨⟨⟨hle, hnd⟩, hcov⟩, hed⟩, hpr⟩ := hok
  have hd := DT_draw hnd hcov hed hpr h hT [] f L trivial rfl rfl rfl
  intro a w β S hr
  refine wp_region_any hm ?_
  have hrep : ∀ i, (Array.replicate ops.size false).getD i false = false := fun i => by
    rw [Array.getD_eq_getD_getElem?, Array.getElem?_replicate]; split <;> rfl
  refine hd ops.size _ a _ β S (by simp) (fun i o h => by rw [hrep] at h; cases h) (fun j h => by rw [hrep] at h; cases h) (fun e he => by cases he) ?_ ?_
  · refine Nat.le_trans (List.length_filter_le _ _) ?_
    exact Nat.le_of_ble_eq_true hle
  · have lat : Later β S w β S { w with drawn := w.drawn + 1 } := ⟨fun _ _ h => h, fun _ h => h, fun _ _ => rfl⟩
    exact ⟨hr.df, hr.sz, fun i => VR_later lat (hr.fr i), ⟨fun i b hb => BoxR_later lat (fun _ _ _ => rfl) (hr.hp.bx i b hb), hr.hp.inj, hr.hp.own, hr.hp.fz, hr.hp.un⟩, hr.own, hr.fz, hr.s0, ⟨hr.pres.os, hr.pres.tape, hr.pres.output, hr.pres.size, hr.pres.block⟩⟩
end
end Go.Eng

/- The engine: functions that take a list of their own and hand one out. -/
import Derived.Test.YtleahipnknainaaDoorEng19
set_option linter.unusedVariables false
set_option linter.unusedSimpArgs false
namespace Go.Eng

abbrev β1 (o : Option (Nat × Nat)) : Beta := fun i => if i = 0 then some o else none
/-- A slice value over a block of its own (or nil). -/
structure LB (S : Nat → Prop) (w : World) (e : TypeId) (l : Lay) (xs : List D) (x : Value) (o : Option (Nat × Nat)) : Prop where
  bx : BoxR (β1 o) S w 0 ⟨e, l, xs.map V.d⟩
  vc : VC (β1 o) S w (.ref l 0 0 xs.length) [x]
  own : ∀ b c, o = some (b, c) → ¬ S b

def BCall (P : Program) (k : FuncId) (pre : List D) (e : TypeId) (l : Lay) (xs : List D) (suf : List D) (ys : List D) : Prop :=
  ∀ (w : World) (S : Nat → Prop) (pv : List Value) (x : Value) (sv : List Value) (o : Option (Nat × Nat)), (∀ b, S b → b < w.heap.size) → Tab P S w → All2 (RD S w) pre pv → All2 (RD S w) suf sv → LB S w e l xs x o →
    Calls P k (pv ++ x :: sv).toArray w fun en w' => ∃ y S' o', en = .returned y ∧ LB S' w' e l ys y o' ∧ (∀ b c, o' = some (b, c) → (∃ c0, o = some (b, c0)) ∨ w.heap.size ≤ b) ∧ (∀ b, S b → S' b) ∧ (∀ b, S' b → b < w'.heap.size ∧ (S b ∨ w.heap.size ≤ b ∨ ∃ c, o = some (b, c))) ∧
      Pres (fun b => ∃ c, o = some (b, c)) w w'

theorem VCs_data {β β' : Beta} {S : Nat → Prop} {w : World} : ∀ (xs : List D) (fs : List Lay) (cs : List Value), VCs β S w fs (xs.map V.d) cs → VCs β' S w fs (xs.map V.d) cs
  | [], fs, cs, h => by simpa only [List.map_nil, VCs] using h
  | x :: xs, fs, cs, h => by
    simp only [List.map_cons, VCs, VC] at h ⊢
    obtain ⟨f, fr, c1, c2, h1, h2, h3, h4, h5⟩ := h
    exact ⟨f, fr, c1, c2, h1, h2, h3, h4, VCs_data xs fr c2 h5⟩
theorem VCs_dc {β : Beta} {S : Nat → Prop} {w : World} : ∀ (xs : List D) (fs : List Lay) (cs : List Value), VCs β S w fs (xs.map V.d) cs ↔ DCs S w fs xs cs
  | [], fs, cs => by simp only [List.map_nil, VCs, DCs]
  | x :: xs, fs, cs => by
    simp only [List.map_cons, VCs, VC, DCs]
    constructor
    · rintro ⟨f, fr, c1, c2, h1, h2, h3, h4, h5⟩
      exact ⟨f, fr, c1, c2, h1, h2, h3, h4, (VCs_dc xs fr c2).1 h5⟩
    · rintro ⟨f, fr, c1, c2, h1, h2, h3, h4, h5⟩
      exact ⟨f, fr, c1, c2, h1, h2, h3, h4, (VCs_dc xs fr c2).2 h5⟩
/-- A box of data seen under another name. -/
theorem BoxR_name {β β' : Beta} {S : Nat → Prop} {w : World} {i j : Nat} {e : TypeId} {l : Lay} {xs : List D} (h : BoxR β S w i ⟨e, l, xs.map V.d⟩) (hb : β' j = β i) : BoxR β' S w j ⟨e, l, xs.map V.d⟩ := by
  obtain ⟨h0, h⟩ := h
  refine ⟨h0, ?_⟩
  rcases h with ⟨h1, h2⟩ | ⟨b, Cp, cur, ds, h1, h2, h3, h4, h5, h6⟩
  · exact .inl ⟨hb.trans h1, h2⟩
  · exact .inr ⟨b, Cp, cur, ds, hb.trans h1, h2, h3, h4, VCs_data _ _ _ h5, h6⟩
theorem VC_name {β β' : Beta} {S S' : Nat → Prop} {w w' : World} {i j : Nat} {l : Lay} {m : Nat} {cs : List Value} (h : VC β S w (.ref l i 0 m) cs) (hb : β' j = β i) : VC β' S' w' (.ref l j 0 m) cs := by
  simp only [VC] at h ⊢
  rw [hb]
  exact h

section
variable {P : Program} {C : Cx} {n : Nat} {f : Fr} {L : Hp} {Q : AQ} {ops : Array Oper} {rest : List Oper} {dst : Option Tmp} {ty : TypeId} {pos : String} {after : Array Edge}

theorem Rel.bcall {a : Act} {w w' : World} {β : Beta} {S S' : Nat → Prop} (h : Rel C n f L a w β S) {i : Nat} {bx bx' : Box} {o o' : Option (Nat × Nat)} (hL : L[i]? = some (some bx)) (hβ : β i = some o) (hp : Pres (fun b => ∃ c, o = some (b, c)) w w')
    (ho : ∀ b c, o' = some (b, c) → (∃ c', o = some (b, c')) ∨ w.heap.size ≤ b) (hns : ∀ b c, o' = some (b, c) → ¬ S' b) (su : ∀ b, S b → S' b) (hS : ∀ b, S' b → b < w'.heap.size ∧ (S b ∨ w.heap.size ≤ b ∨ ∃ c, o = some (b, c)))
    (hbx : ∀ β' : Beta, β' L.length = some o' → BoxR β' S' w' L.length bx') : Rel C n f (L.set i none ++ [some bx']) a w' (setβ β L.length o') S' := by
  have hi : i < L.length := lt_of_get hL
  have old : ∀ b, b < w.heap.size → (∀ c, β i ≠ some (some (b, c))) → w'.heap[b]? = w.heap[b]? := fun b hb hne => hp.block b hb (fun ⟨c, hc⟩ => hne c (by rw [hβ, hc]))
  have lat : Later β S w (setβ β L.length o') S' w' := by
    refine ⟨fun j oo hj => ?_, su, fun b hb => old b (h.hp.fz b hb) fun c hc => h.hp.own i bx b c hL hc hb⟩
    by_cases e : j = L.length
    · subst e; rw [h.hp.un _ (Nat.le_refl _)] at hj; cases hj
    · rw [setβ_ne _ _ e]; exact hj
  have cases_ : ∀ j b, (L.set i none ++ [some bx'])[j]? = some (some b) → (j < L.length ∧ j ≠ i ∧ L[j]? = some (some b)) ∨ (j = L.length ∧ bx' = b) := fun j b hj => by
    rcases get_snoc _ _ _ _ hj with ⟨h1, h2⟩ | ⟨h1, h2⟩
    · rw [List.getElem?_set] at h2
      by_cases e : i = j
      · subst e
        rw [if_pos rfl, if_pos hi] at h2
        cases h2
      · rw [if_neg e] at h2
        exact .inl ⟨by simpa using h1, fun h => e h.symm, h2⟩
    · exact .inr ⟨by simpa using h1, by injection h2⟩
  have newb : ∀ b c, o' = some (b, c) → ∀ j, j < L.length → j ≠ i → ∀ bj cj, L[j]? = some (some bj) → β j ≠ some (some (b, cj)) := fun b c hob j hj hne bj cj hLj hbj => by
    rcases ho b c hob with ⟨c', hc'⟩ | hb
    · exact hne (h.hp.inj j i b bj bx cj c' hLj hL hbj (by rw [hβ, hc']))
    · have := (h.hp.bx j bj hLj).lt hbj
      omega
  refine h.later lat ⟨?_, ?_, ?_, ?_, ?_⟩ ?_ ?_ ?_
  · intro j b hj
    rcases cases_ j b hj with ⟨h1, h2, h3⟩ | ⟨rfl, rfl⟩
    · exact BoxR_later lat (fun b' c hb => old b' ((h.hp.bx j b h3).lt hb) fun c' hc' => h2 (h.hp.inj j i b' b bx c c' h3 hL hb hc')) (h.hp.bx j b h3)
    · exact hbx _ (setβ_self _ _ _)
  · intro j j' b b1 b2 c c' hj hj' hbj hbj'
    rcases cases_ j _ hj with ⟨h1, h2, h3⟩ | ⟨rfl, _⟩ <;> rcases cases_ j' _ hj' with ⟨k1, k2, k3⟩ | ⟨rfl, _⟩
    · rw [setβ_ne _ _ (by omega)] at hbj hbj'
      exact h.hp.inj j j' b b1 b2 c c' h3 k3 hbj hbj'
    · rw [setβ_ne _ _ (by omega)] at hbj
      rw [setβ_self] at hbj'
      injection hbj' with hbj'
      exact absurd hbj (newb b c' hbj' j h1 h2 _ _ h3)
    · rw [setβ_ne _ _ (by omega)] at hbj'
      rw [setβ_self] at hbj
      injection hbj with hbj
      exact absurd hbj' (newb b c hbj j' k1 k2 _ _ k3)
    · rfl
  · intro j b1 b c hj hbj hs
    rcases cases_ j _ hj with ⟨h1, h2, h3⟩ | ⟨rfl, _⟩
    · rw [setβ_ne _ _ (by omega)] at hbj
      rcases (hS b hs).2 with h4 | h4 | ⟨c4, h4⟩
      · exact h.hp.own j b1 b c h3 hbj h4
      · have := (h.hp.bx j b1 h3).lt hbj; omega
      · exact h2 (h.hp.inj j i b b1 bx c c4 h3 hL hbj (by rw [hβ, h4]))
    · rw [setβ_self] at hbj
      injection hbj with hbj
      exact hns b c hbj hs
  · intro b hb
    exact (hS b hb).1
  · intro j hj
    simp at hj
    rw [setβ_ne _ _ (by omega)]
    exact h.hp.un j (by omega)
  · intro j b1 b c hj hbj
    rcases cases_ j _ hj with ⟨h1, h2, h3⟩ | ⟨rfl, _⟩
    · rw [setβ_ne _ _ (by omega)] at hbj
      exact h.own j b1 b c h3 hbj
    · rw [setβ_self] at hbj
      injection hbj with hbj
      rcases ho b c hbj with ⟨c', hc'⟩ | hb
      · exact h.own i bx b c' hL (by rw [hβ, hc'])
      · have := h.pres.size
        exact .inr (by omega)
  · intro b hb
    rcases (hS b hb).2 with h1 | h1 | ⟨c1, h1⟩
    · exact h.fz b h1
    · have := h.pres.size
      exact .inr (.inl (by omega))
    · exact .inr (h.own i bx b c1 hL (by rw [hβ, h1])).symm
  · refine ⟨hp.os.trans h.pres.os, hp.tape.trans h.pres.tape, hp.output.trans h.pres.output, by have := h.pres.size; have := hp.size; omega, fun b hb hd => ?_⟩
    have hsz := h.pres.size
    refine (old b (by omega) fun c hc => ?_).trans (h.pres.block b hb hd)
    rcases h.own i bx b c hL hc with h1 | h1
    · exact hd h1
    · omega

theorem VR_ref0 {β : Beta} {S : Nat → Prop} {w : World} {l : Lay} {i m : Nat} {v : Value} (h : VR β S w (.ref l i 0 m) v) : (∃ o, β i = some o) ∧ VC β S w (.ref l i 0 m) [v] := by
  rcases h with h | ⟨h, e⟩
  · cases h
  · have hv : isAggV v = false := by simpa [V.isAgg] using e.symm
    have hc : v.cells = #[v] := by cases v <;> first | rfl | simp [isAggV] at hv
    rw [hc] at h
    refine ⟨?_, h⟩
    simp only [VC] at h
    rcases h with ⟨h1, _⟩ | ⟨b, Cp, h1, _⟩
    · exact ⟨_, h1⟩
    · exact ⟨_, h1⟩

theorem bcall_wp (hT : CT P C) {x : Operand} {args : Array Operand} {ts : Array TypeId} {k : FuncId} {pre suf : List D} {e : TypeId} {l : Lay} {xs ys : List D} {a : Act} {w : World} {β : Beta} {S : Nat → Prop} (hr : Rel C n f L a w β S) {i m : Nat} {p1 p2 : List Operand} {y : Operand}
    (hx : ev f x = .d (.fn k [])) (hc : Callable P k) (hargs : args.toList = p1 ++ y :: p2) (h1 : p1.map (ev f) = pre.map V.d) (h2 : p2.map (ev f) = suf.map V.d) (hL : L[i]? = some (some ⟨e, l, xs.map V.d⟩)) (hm : xs.length = m) (hp : BCall P k pre e l xs suf ys)
    (hyv : VR β S w (.ref l i 0 m) (a.eval y)) (hd : dstOk n dst = true) (K : Act → World → Prop) (Qc : Exit → Act → World → Prop) (hK : ∀ a' w' β' S', Rel C n (updo f dst (.ref l L.length 0 ys.length)) (L.set i none ++ [some ⟨e, l, ys.map V.d⟩]) a' w' β' S' → K a' w') :
    Oper.wp P ⟨dst, callV x args ts, ty, pos, after, none⟩ a w K Qc := by
  subst hm
  have hv := rel_ev hr x
  rw [hx] at hv
  obtain ⟨cv, c1, c2⟩ := VR_fn hv
  have hcv : cv = [] := by
    have := (DCs_len _ _ _ c2).1
    simpa [Lay.lens] using this
  subst hcv
  obtain ⟨⟨o, ho⟩, hvc⟩ := VR_ref0 hyv
  unfold Oper.wp
  rw [call_run hc c1, Oper.upon_enter]
  have heq : (args.map a.eval ++ ([] : List Value).toArray) = (p1.map a.eval ++ a.eval y :: p2.map a.eval).toArray := by
    have : (args.map a.eval).toList = p1.map a.eval ++ a.eval y :: p2.map a.eval := by rw [Array.toList_map, hargs]; simp
    rw [← this]
    exact Array.append_empty.trans (Array.toArray_toList).symm
  rw [heq]
  have hlb : LB S w e l xs (a.eval y) o := ⟨BoxR_name (hr.hp.bx i _ hL) (by simp [ho]), VC_name hvc (by simp [ho]), fun b c hoo => by subst hoo; exact hr.hp.own i _ b c hL ho⟩
  refine (hp w S _ _ _ o hr.hp.fz (hT.tab hr) (args_RD hr p1 pre h1) (args_RD hr p2 suf h2) hlb).mono ?_
  rintro en w' ⟨z, S', o', rfl, ⟨q1, q2, q3⟩, q4, q5, q6, q7⟩
  have hr' := hr.bcall (bx' := ⟨e, l, ys.map V.d⟩) hL ho q7 q4 q3 q5 q6 fun β' hb => BoxR_name q1 (by simp [hb])
  refine hK _ _ _ _ (hr'.puto (dstOk_spec hd) (.inr ⟨?_, ?_⟩))
  · have hz : isAggV z = false := by
      simp only [VC] at q2
      rcases q2 with ⟨_, q2, _⟩ | ⟨_, _, _, q2, _⟩ <;> (injection q2 with q2; rw [q2]; rfl)
    have hzc : z.cells.toList = [z] := by cases z <;> first | rfl | simp [isAggV] at hz
    rw [hzc]
    exact VC_name q2 (by rw [setβ_self]; simp)
  · simp only [VC] at q2
    rcases q2 with ⟨_, q2, _⟩ | ⟨_, _, _, q2, _⟩ <;> (injection q2 with q2; rw [q2]; rfl)

theorem AL_bcall (hT : CT P C) {x : Operand} {args : Array Operand} {ts : Array TypeId} {k : FuncId} {pre suf : List D} {e : TypeId} {l : Lay} {xs ys : List D} (i m : Nat) (p1 : List Operand) {p2 : List Operand} {y : Operand} {bx : Box}
    (hx : ev f x = .d (.fn k [])) (hc : Callable P k) (hargs : args.toList = p1 ++ y :: p2) (h1 : p1.map (ev f) = pre.map V.d) (hy : ev f y = .ref l i 0 m) (h2 : p2.map (ev f) = suf.map V.d) (hp : BCall P k pre e l xs suf ys) (hL : L[i]? = some (some bx)) (hbx : bx = ⟨e, l, xs.map V.d⟩) (hm : xs.length = m)
    (q : Nat) (hq : L.length = q) (hd : dstOk n dst = true) (h : AL P C n ops rest Q (updo f dst (.ref l q 0 ys.length)) (L.set i none ++ [some ⟨e, l, ys.map V.d⟩])) : AL P C n ops (⟨dst, callV x args ts, ty, pos, after, none⟩ :: rest) Q f L := by
  subst hq; subst hbx
  intro a w β S hr
  refine wpList_plain rfl fun K hK => ?_
  have hyv := rel_ev hr y
  rw [hy] at hyv
  exact bcall_wp hT hr hx hc hargs h1 h2 hL hm hp hyv hd K _ fun a' w' β' S' hr' => hK _ _ (h a' w' β' S' hr')
/-- The same where nil is handed in. -/
theorem AL_bcalln (hT : CT P C) {x : Operand} {args : Array Operand} {ts : Array TypeId} {k : FuncId} {pre suf : List D} {e : TypeId} {l : Lay} {ys : List D} (p1 : List Operand) {p2 : List Operand} {y : Operand}
    (hx : ev f x = .d (.fn k [])) (hc : Callable P k) (hargs : args.toList = p1 ++ y :: p2) (h1 : p1.map (ev f) = pre.map V.d) (hy : ev f y = nilsl) (h2 : p2.map (ev f) = suf.map V.d) (hp : BCall P k pre e l [] suf ys)
    (q : Nat) (hq : L.length = q) (hd : dstOk n dst = true) (h : AL P C n ops rest Q (updo f dst (.ref l (q + 1) 0 ys.length)) (L ++ [none, some ⟨e, l, ys.map V.d⟩])) : AL P C n ops (⟨dst, callV x args ts, ty, pos, after, none⟩ :: rest) Q f L := by
  subst hq
  intro a w β S hr
  refine wpList_plain rfl fun K hK => ?_
  have hyv := rel_ev hr y
  rw [hy] at hyv
  have hyv : a.eval y = .slice none 0 0 := (VR_c.1 hyv).1
  have hr' := hr.virt e l
  refine bcall_wp hT (i := L.length) (m := 0) (xs := []) hr' hx hc hargs h1 h2 (by simp) rfl hp ?_ hd K _ fun a' w' β' S' hr'' => hK _ _ (h a' w' β' S' (by
    have e1 : (L ++ [some (⟨e, l, []⟩ : Box)]).set L.length none ++ [some (⟨e, l, ys.map V.d⟩ : Box)] = L ++ [none, some ⟨e, l, ys.map V.d⟩] := by simp
    have e2 : (L ++ [some (⟨e, l, []⟩ : Box)]).length = L.length + 1 := by simp
    rw [e1, e2] at hr''
    exact hr''))
  rw [hyv]
  refine .inr ⟨?_, rfl⟩
  show VC _ _ _ _ [_]
  simp only [VC]
  exact .inl ⟨setβ_self _ _ _, by first | rfl | trivial, by first | rfl | trivial, by first | rfl | trivial⟩
end

/-- Where the body of a function of that kind may end. -/
def retB (fn : Func) (P : Program) (w0 : World) (S0 : Nat → Prop) (o : Option (Nat × Nat)) (e : TypeId) (l : Lay) (ys : List D) (a : Act) (w' : World) : Prop :=
  a.defers = [] ∧ ∃ y, (results fn a.tmps).run P w' = .ok y w' ∧ ∃ S' o', LB S' w' e l ys y o' ∧ (∀ b c, o' = some (b, c) → (∃ c0, o = some (b, c0)) ∨ w0.heap.size ≤ b) ∧ (∀ b, S0 b → S' b) ∧ (∀ b, S' b → b < w'.heap.size ∧ (S0 b ∨ w0.heap.size ≤ b ∨ ∃ c, o = some (b, c))) ∧
      Pres (fun b => ∃ c, o = some (b, c)) w0 w'
def retBQ (fn : Func) (P : Program) (w0 : World) (S0 : Nat → Prop) (o : Option (Nat × Nat)) (e : TypeId) (l : Lay) (ys : List D) : AQ := fun x a w => ends x = true ∧ retB fn P w0 S0 o e l ys a w

section
variable {P : Program} {C : Cx} {n : Nat} {f : Fr} {L : Hp}
theorem retB_fin {fn : Func} {o : Option (Nat × Nat)} {e : TypeId} {l : Lay} {ys : List D} {j m : Nat} {bx : Box} (hdm : ∀ b, C.Dm b ↔ ∃ c, o = some (b, c)) (hrv : RetV P f L fn.results.toList [.ref l j 0 m]) (hL : L[j]? = some (some bx)) (hbx : bx = ⟨e, l, ys.map V.d⟩) (hm : ys.length = m) : Fin C n (retB fn P C.w0 C.S0 o e l ys) f L := by
  subst hm; subst hbx
  intro a w' β' S' hr
  obtain ⟨zs, hy, hall⟩ := RetV_run hr hrv
  have hrun := results_run (fn := fn) hy
  cases hall with
  | cons h1 h2 =>
    rename_i y zs
    cases h2
    obtain ⟨⟨o', ho'⟩, hvc⟩ := VR_ref0 (VR_of_VR0 h1)
    refine ⟨hr.df, y, by simpa using hrun, S', o', ⟨BoxR_name (hr.hp.bx j _ hL) (by simp [ho']), VC_name hvc (by simp [ho']), fun b c hoo => by subst hoo; exact hr.hp.own j _ b c hL ho'⟩, fun b c hoo => ?_, hr.s0, fun b hb => ⟨hr.hp.fz b hb, ?_⟩, ?_⟩
    · subst hoo
      rcases hr.own j _ b c hL ho' with h3 | h3
      · exact .inl ((hdm b).1 h3)
      · exact .inr h3
    · rcases hr.fz b hb with h3 | h3 | h3
      · exact .inl h3
      · exact .inr (.inl h3)
      · exact .inr (.inr ((hdm b).1 h3))
    · exact ⟨hr.pres.os, hr.pres.tape, hr.pres.output, hr.pres.size, fun b hb hd => hr.pres.block b hb fun h => hd ((hdm b).1 h)⟩
theorem retb_ok {fn : Func} {o : Option (Nat × Nat)} {e : TypeId} {l : Lay} {ys : List D} {j m : Nat} {bx : Box} (hdm : ∀ b, C.Dm b ↔ ∃ c, o = some (b, c)) (hrv : RetV P f L fn.results.toList [.ref l j 0 m]) (hL : L[j]? = some (some bx)) (hbx : bx = ⟨e, l, ys.map V.d⟩) (hm : ys.length = m) : Fin C n (retBQ fn P C.w0 C.S0 o e l ys .ret) f L := fun a w β S hr => ⟨rfl, retB_fin hdm hrv hL hbx hm a w β S hr⟩

/-- The frame at the start: data, the list, data. -/
def frB (pre : List D) (l : Lay) (m : Nat) (suf : List D) : Fr := fun i => match (pre.map V.d ++ V.ref l 0 0 m :: suf.map V.d)[i]? with | some v => v | none => .any

theorem BCall_of {k : FuncId} {fn : Func} {c : Code} {pre suf : List D} {e : TypeId} {l : Lay} {xs ys : List D} (hf : P.funcs[k]? = some fn) (hb : fn.body = some c) (hn : fn.ntmps = n) (hlen : pre.length + suf.length + 1 ≤ n)
    (h : ∀ C o, (∀ b, C.Dm b ↔ ∃ c, o = some (b, c)) → CT P C → AC P C n c (retBQ fn P C.w0 C.S0 o e l ys) (frB pre l xs.length suf) [some ⟨e, l, xs.map V.d⟩]) : BCall P k pre e l xs suf ys := by
  intro w S pv x sv o hS hT hd1 hd2 hlb
  refine calls_of_wp hf hb ?_
  subst hn
  have hall : All2 (VR0 (β1 o) S w) (pre.map V.d ++ V.ref l 0 0 xs.length :: suf.map V.d) (pv ++ x :: sv) := by
    have key : ∀ {ds : List D} {vs : List Value}, All2 (RD S w) ds vs → All2 (VR0 (β1 o) S w) (ds.map V.d) vs := by
      intro ds vs h
      induction h with
      | nil => exact .nil
      | cons h1 _ ih => exact .cons (VR0_of_RD h1) ih
    refine (key hd1).append (.cons (.inr ?_) (key hd2))
    have hvc := hlb.vc
    have hx : isAggV x = false := by
      simp only [VC] at hvc
      rcases hvc with ⟨_, q, _⟩ | ⟨_, _, _, q, _⟩ <;> (injection q with q; rw [q]; rfl)
    have hxc : x.cells.toList = [x] := by cases x <;> first | rfl | simp [isAggV] at hx
    rw [hxc, hx]
    exact ⟨hvc, rfl⟩
  have hln : ∀ {vs : List V} {zs : List Value}, All2 (VR0 (β1 o) S w) vs zs → vs.length = zs.length := by
    intro vs zs h
    induction h with
    | nil => rfl
    | cons _ _ ih => simp [ih]
  have hsz := hln hall
  have hget : ∀ {vs : List V} {zs : List Value}, All2 (VR0 (β1 o) S w) vs zs → ∀ (i : Nat) (v : V), vs[i]? = some v → ∃ z : Value, zs[i]? = some z ∧ VR0 (β1 o) S w v z := by
    intro vs zs h
    induction h with
    | nil => intro i d h; simp at h
    | cons h1 _ ih =>
      intro i d hi
      cases i with
      | zero => simp at hi; subst hi; exact ⟨_, rfl, h1⟩
      | succ i => simp at hi; simpa using ih i d hi
  have hrel : Rel ⟨w, fun b => ∃ c, o = some (b, c), S⟩ fn.ntmps (frB pre l xs.length suf) [some ⟨e, l, xs.map V.d⟩] { tmps := (pv ++ x :: sv).toArray ++ Array.replicate (fn.ntmps - (pv ++ x :: sv).toArray.size) undef, defers := [] } w (β1 o) S := by
    refine ⟨rfl, ?_, fun i => ?_, ⟨?_, ?_, ?_, hS, fun i hi => ?_⟩, ?_, fun b hb => .inl hb, fun b hb => hb, Pres.refl _ _⟩
    · simp at hsz ⊢; omega
    · show VR _ _ _ (match (pre.map V.d ++ V.ref l 0 0 xs.length :: suf.map V.d)[i]? with | some v => v | none => .any) _
      cases e' : (pre.map V.d ++ V.ref l 0 0 xs.length :: suf.map V.d)[i]? with
      | none => exact VR_any ..
      | some v =>
        obtain ⟨z, hz, hv⟩ := hget hall i v e'
        have : ((pv ++ x :: sv).toArray ++ Array.replicate (fn.ntmps - (pv ++ x :: sv).toArray.size) undef).getD i undef = z := by
          have hi := lt_of_get hz
          rw [Array.getD_eq_getD_getElem?, Array.getElem?_append_left (by simpa using hi), List.getElem?_toArray, hz]
          rfl
        simp only
        rw [this]
        exact VR_of_VR0 hv
    · intro i b hi
      match i, hi with
      | 0, hi => simp at hi; subst hi; exact hlb.bx
      | i + 1, hi => simp at hi
    · intro i j b bx bx' c c' hi hj _ _
      have h1 := lt_of_get hi
      have h2 := lt_of_get hj
      simp at h1 h2
      omega
    · intro i bx b c hi hbi
      have h1 := lt_of_get hi
      simp at h1
      subst h1
      simp at hbi
      exact hlb.own b c hbi
    · simp at hi
      show (if i = 0 then some o else none) = none
      rw [if_neg (by omega)]
    · intro i bx b c hi hbi
      have h1 := lt_of_get hi
      simp at h1
      subst h1
      simp at hbi
      exact .inl ⟨c, hbi⟩
  refine wp_mono (h ⟨w, fun b => ∃ c, o = some (b, c), S⟩ o (fun b => Iff.rfl) (CT.start hT fun b hb ⟨c, hc⟩ => hlb.own b c hc hb) _ w _ S hrel) ?_
  rintro en a w' ⟨hend, h1, y, h2, S', o', h3⟩
  have fin : a.defers = [] ∧ ∃ v, (results fn a.tmps).run P w' = .ok v w' ∧ ∃ y S' o', Ending.returned v = .returned y ∧ LB S' w' e l ys y o' ∧ (∀ b c, o' = some (b, c) → (∃ c0, o = some (b, c0)) ∨ w.heap.size ≤ b) ∧ (∀ b, S b → S' b) ∧ (∀ b, S' b → b < w'.heap.size ∧ (S b ∨ w.heap.size ≤ b ∨ ∃ c, o = some (b, c))) ∧
      Pres (fun b => ∃ c, o = some (b, c)) w w' := ⟨h1, y, h2, y, S', o', rfl, h3⟩
  cases en with
  | normal => exact fin
  | ret => exact fin
  | _ => cases hend
end

theorem Vw_refe {L : Hp} {src : List (Option Nat)} {l : Lay} {i j off m m' : Nat} (hs : srcOf src j = some i) (h : m = m') : Vw L src (.ref l i off m) (.ref l j off m') := by subst h; exact .ref hs
def ints (xs : List Int) : List D := xs.map fun n => .c (.int .i64 n)
@[simp] theorem ints_length (xs : List Int) : (ints xs).length = xs.length := by simp [ints]
theorem ints_append (xs ys : List Int) : ints xs ++ ints ys = ints (xs ++ ys) := by simp [ints]
theorem ints_get {xs : List Int} {i : Nat} {n : Int} (h : xs[i]? = some n) : (ints xs)[i]? = some (.c (.int .i64 n)) := by simp [ints, h]
def strs (xs : List ByteArray) : List D := xs.map fun s => .c (.string s)
@[simp] theorem strs_length (xs : List ByteArray) : (strs xs).length = xs.length := by simp [strs]
theorem strs_append (xs ys : List ByteArray) : strs xs ++ strs ys = strs (xs ++ ys) := by simp [strs]
theorem strs_get {xs : List ByteArray} {i : Nat} {s : ByteArray} (h : xs[i]? = some s) : (strs xs)[i]? = some (.c (.string s)) := by simp [strs, h]
end Go.Eng

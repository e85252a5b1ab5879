/- The engine: append; states seen as other states. -/
import Derived.Test.YtleahipnknainaaDoorEng7
set_option linter.unusedVariables false
set_option linter.unusedSimpArgs false
namespace Go.Eng

section
variable {P : Program} {C : Cx} {n : Nat} {f : Fr} {L : Hp} {Q : AQ} {ops : Array Oper} {rest : List Oper} {dst : Option Tmp} {ty : TypeId} {pos : String} {after : Array Edge}

/-- Box i gives way to a new one that lies where it lay, or in a new block. -/
theorem Rel.move {a : Act} {w w' : World} {β : Beta} {S : Nat → Prop} (h : Rel C n f L a w β S) {i : Nat} {bx bx' : Box} {r : Option Nat} {o : Option (Nat × Nat)} (hL : L[i]? = some (some bx)) (hg : w.grownBy w' r)
    (hr : ∀ b, r = some b → ∃ c, β i = some (some (b, c))) (ho : ∀ b c, o = some (b, c) → (∃ c', β i = some (some (b, c'))) ∨ (b = w.heap.size ∧ b < w'.heap.size))
    (hbx : ∀ β', Later β S w β' S w' → β' L.length = some o → BoxR β' S w' L.length bx') : Rel C n f (L.set i none ++ [some bx']) a w' (setβ β L.length o) S := by
  have hi : i < L.length := lt_of_get hL
  have old : ∀ b, b < w.heap.size → (∀ c, β i ≠ some (some (b, c))) → w'.heap[b]? = w.heap[b]? := fun b hb hne => hg.block b hb (fun e => by
    obtain ⟨c, hc⟩ := hr b e.symm
    exact hne c hc)
  have lat : Later β S w (setβ β L.length o) S w' := later_new (h.hp.un _ (Nat.le_refl _)) fun b hb => old b (h.hp.fz b hb) fun c hc => h.hp.own i bx b c hL hc hb
  have cases_ : ∀ j b, (L.set i none ++ [some bx'])[j]? = some (some b) → (j < L.length ∧ j ≠ i ∧ L[j]? = some (some b)) ∨ (j = L.length ∧ bx' = b) := fun j b hj => by
    rcases get_snoc _ _ _ _ hj with ⟨h1, h2⟩ | ⟨h1, h2⟩
    · rw [List.getElem?_set] at h2
      by_cases e : i = j
      · subst e
        rw [if_pos rfl, if_pos hi] at h2
        cases h2
      · rw [if_neg e] at h2
        exact .inl ⟨by simpa using h1, fun h => e h.symm, h2⟩
    · exact .inr ⟨by simpa using h1, by injection h2⟩
  have newb : ∀ b c, o = some (b, c) → ∀ j, j < L.length → j ≠ i → ∀ bj cj, L[j]? = some (some bj) → β j ≠ some (some (b, cj)) := fun b c hob j hj hne bj cj hLj hbj => by
    rcases ho b c hob with ⟨c', hc'⟩ | ⟨hb, _⟩
    · exact hne (h.hp.inj j i b bj bx cj c' hLj hL hbj hc')
    · have := (h.hp.bx j bj hLj).lt hbj
      omega
  refine h.later lat ⟨?_, ?_, ?_, ?_, ?_⟩ ?_ h.fz ?_
  · intro j b hj
    rcases cases_ j b hj with ⟨h1, h2, h3⟩ | ⟨rfl, rfl⟩
    · exact BoxR_later lat (fun b' c hb => old b' ((h.hp.bx j b h3).lt hb) fun c' hc' => h2 (h.hp.inj j i b' b bx c c' h3 hL hb hc')) (h.hp.bx j b h3)
    · exact hbx _ lat (setβ_self _ _ _)
  · intro j j' b b1 b2 c c' hj hj' hbj hbj'
    rcases cases_ j _ hj with ⟨h1, h2, h3⟩ | ⟨rfl, _⟩ <;> rcases cases_ j' _ hj' with ⟨k1, k2, k3⟩ | ⟨rfl, _⟩
    · rw [setβ_ne _ _ (by omega)] at hbj hbj'
      exact h.hp.inj j j' b b1 b2 c c' h3 k3 hbj hbj'
    · rw [setβ_ne _ _ (by omega)] at hbj
      rw [setβ_self] at hbj'
      injection hbj' with hbj'
      exact absurd hbj (newb b c' hbj' j h1 h2 _ _ h3)
    · rw [setβ_ne _ _ (by omega)] at hbj'
      rw [setβ_self] at hbj
      injection hbj with hbj
      exact absurd hbj' (newb b c hbj j' k1 k2 _ _ k3)
    · rfl
  · intro j b1 b c hj hbj hs
    rcases cases_ j _ hj with ⟨h1, h2, h3⟩ | ⟨rfl, _⟩
    · rw [setβ_ne _ _ (by omega)] at hbj
      exact h.hp.own j b1 b c h3 hbj hs
    · rw [setβ_self] at hbj
      injection hbj with hbj
      rcases ho b c hbj with ⟨c', hc'⟩ | ⟨hb, _⟩
      · exact h.hp.own i bx b c' hL hc' hs
      · have := h.hp.fz b hs
        omega
  · intro b hb
    have := h.hp.fz b hb
    have := hg.size
    omega
  · intro j hj
    simp at hj
    rw [setβ_ne _ _ (by omega)]
    exact h.hp.un j (by omega)
  · intro j b1 b c hj hbj
    rcases cases_ j _ hj with ⟨h1, h2, h3⟩ | ⟨rfl, _⟩
    · rw [setβ_ne _ _ (by omega)] at hbj
      exact h.own j b1 b c h3 hbj
    · rw [setβ_self] at hbj
      injection hbj with hbj
      rcases ho b c hbj with ⟨c', hc'⟩ | ⟨hb, _⟩
      · exact h.own i bx b c' hL hc'
      · have := h.pres.size
        exact .inr (by omega)
  · refine ⟨hg.os.trans h.pres.os, hg.tape.trans h.pres.tape, hg.output.trans h.pres.output, by have := h.pres.size; have := hg.size; omega, fun b hb hd => ?_⟩
    have hsz := h.pres.size
    refine (old b (by omega) fun c hc => ?_).trans (h.pres.block b hb hd)
    rcases h.own i bx b c hL hc with h1 | h1
    · exact hd h1
    · omega

/-- What is appended. -/
def Src (C : Cx) (n : Nat) (f : Fr) (L : Hp) (y : Operand) (l : Lay) (ys : List V) : Prop :=
  ∀ a w β S, Rel C n f L a w β S → ∃ A c news, a.eval y = .slice A ys.length c ∧ VCs β S w (List.replicate ys.length l) ys news ∧ (ys.length = 0 ∨ ∃ b o, A = some ⟨b, o, none⟩ ∧ cellsAt w b o news)
theorem Src_sl {y : Operand} {l : Lay} {xs : List D} (hy : ev f y = .d (.sl l xs)) : Src C n f L y l (xs.map V.d) := by
  intro a w β S hr
  have hv := rel_ev hr y
  rw [hy] at hv
  obtain ⟨A, cap, h1, h2, h3, h4⟩ := VR_sl hv
  simp only [List.length_map]
  rcases h4 with h4 | ⟨b, off, ds, rfl, hb, hd, hc⟩
  · have : xs = [] := List.eq_nil_of_length_eq_zero h4
    subst this
    exact ⟨A, cap, [], h1, by simp [VCs], .inl rfl⟩
  · exact ⟨_, cap, ds, h1, (VCs_d xs _ ds).2 hd, .inr ⟨b, off, rfl, hc⟩⟩
theorem Src_nil {y : Operand} {l : Lay} (hy : ev f y = nilsl) : Src C n f L y l [] := fun a w β S hr => ⟨none, 0, [], eval_c hr hy, by simp [VCs], .inl rfl⟩
/-- The whole of a box. -/
theorem Src_ref {y : Operand} {l : Lay} {i m : Nat} {bx : Box} (hy : ev f y = .ref l i 0 m) (hL : L[i]? = some (some bx)) (hl : bx.l = l) (hm : bx.es.length = m) : Src C n f L y l bx.es := by
  intro a w β S hr
  have hv := rel_ev hr y
  rw [hy] at hv
  subst hl; subst hm
  rcases VR_ref hv with ⟨h1, h2, _, h3⟩ | ⟨b, Cp, h1, h2, h3⟩
  · have : bx.es = [] := List.eq_nil_of_length_eq_zero h3
    rw [this]
    exact ⟨none, 0, [], h2, by simp [VCs], .inl rfl⟩
  · rcases (hr.hp.bx i bx hL).2 with ⟨q1, _⟩ | ⟨b', C', cur, ds, q1, q2, q3, q4, q5, q6⟩
    · rw [q1] at h1; cases h1
    · rw [q1] at h1
      injection h1 with h1; injection h1 with h1; injection h1 with h1 h1'
      subst h1
      refine ⟨_, _, ds, h2, q5, .inr ⟨b', 0 * bx.l.len, rfl, fun j x hx => ?_⟩⟩
      have := q6 j x hx
      simp [World.cell?, q2, this]

theorem append_arg_run {a : Act} {w : World} {x y : Operand} {t : TypeId} {dst : Option Tmp} {ty : TypeId} {pos : String} {after : Array Edge} {v : Value} {w' : World} (h : (Builtin.append_ #[t, t] ty #[a.eval x, a.eval y]).run P w = .ok v w') :
    (execOp a.eval ⟨dst, callB .append #[x, y] #[t, t], ty, pos, after, none⟩).run P w = .ok (.value v) w' := by
  simp only [execOp, resolve, invoke, builtin, Sem.run_bind, Sem.run_pure, Result.andThen]
  simp [h, Result.andThen]

theorem St_append {t e : TypeId} {x y : Operand} {l : Lay} {i m bytes : Nat} {bx : Box} {ys : List V} {z : Value} (hx : ev f x = .ref l i 0 m) (hL : L[i]? = some (some bx)) (hl : bx.l = l) (ht : tyElem P t = some e) (hs : tySize P e = some l.len) (hz : tyZero P e = some (some z)) (hzl : z.cells.size = l.len) (hb : tyBytes P e = some bytes) (hb128 : bytes ≤ 128)
    (hpos : 0 < l.len) (he : bx.ty = e) (hm : bx.es.length = m) (src : Src C n f L y l ys) (hlim : m + ys.length ≤ lim) (q : Nat) (hq : L.length = q) (hd : dstOk n dst = true) :
    StQ P C n ⟨dst, callB .append #[x, y] #[t, t], ty, pos, after, none⟩ f L (fun f' L' => f' = updo f dst (.ref l q 0 (m + ys.length)) ∧ L' = L.set i none ++ [some ⟨e, l, bx.es ++ ys⟩]) := by
  subst hq
  intro a w β S hr K Qc hK
  have hv := rel_ev hr x
  rw [hx] at hv
  obtain ⟨A, c, news, hy1, hy2, hy3⟩ := src a w β S hr
  subst hl; subst he
  obtain ⟨info, hi, hby⟩ := Option.map_eq_some_iff.1 hb
  obtain ⟨info', hi', hzz⟩ := Option.map_eq_some_iff.1 hz
  rw [hi] at hi'
  injection hi' with hi'
  subst hi'
  have hsz : info.size = bx.l.len := by
    obtain ⟨i2, hi2, h2⟩ := Option.map_eq_some_iff.1 hs
    rw [hi] at hi2
    injection hi2 with hi2
    subst hi2
    exact h2
  have hnl : news.length = ys.length * bx.l.len := by
    have := (VCs_len _ _ _ hy2).1
    rwa [lens_replicate] at this
  have hlim' : m + ys.length ≤ 1099511627776 := hlim
  -- what both arms hand on
  have app : ∀ (β' : Beta) (w' : World) (ds : List Value), Later β S w β' S w' → VCs β S w (List.replicate bx.es.length bx.l) bx.es ds → VCs β' S w' (List.replicate (bx.es ++ ys).length bx.l) (bx.es ++ ys) (ds ++ news) := by
    intro β' w' ds lat hds
    have key : ∀ (es : List V) (ds : List Value), VCs β S w (List.replicate es.length bx.l) es ds → VCs β S w (List.replicate (es ++ ys).length bx.l) (es ++ ys) (ds ++ news) := by
      intro es
      induction es with
      | nil => intro ds hds; simp only [List.length_nil, List.replicate_zero, VCs] at hds; obtain ⟨_, rfl⟩ := hds; simpa using hy2
      | cons v es ih =>
        intro ds hds
        simp only [List.length_cons, List.replicate_succ, VCs] at hds
        obtain ⟨f0, fr, c1, c2, e0, rfl, h3, h4, h5⟩ := hds
        injection e0 with e1 e2
        subst e1; subst e2
        simp only [List.cons_append, List.length_cons, List.replicate_succ, VCs]
        exact ⟨_, _, c1, c2 ++ news, rfl, by simp, h3, h4, ih c2 h5⟩
    exact VCs_later lat _ _ _ (key _ _ hds)
  by_cases h0 : ys.length = 0
  · -- nothing is appended
    have hys : ys = [] := List.eq_nil_of_length_eq_zero h0
    subst hys
    have hxv : ∃ bo cap, a.eval x = .slice bo m cap ∧ m ≤ cap := by
      rcases VR_ref hv with ⟨_, k2, _, k3⟩ | ⟨b, Cp, _, k2, hle⟩
      · exact ⟨none, 0, by rw [k2, k3], by omega⟩
      · exact ⟨_, _, k2, by omega⟩
    obtain ⟨bo, cap, hxv, hcap⟩ := hxv
    have hrun : (Builtin.append_ #[t, t] ty #[a.eval x, a.eval y]).run P w = .ok (a.eval x) w := by
      have hfc : (Builtin.firstCells info.size 0 (.slice A 0 c)).run P w = .ok #[] w := by
        cases A <;> simp [Builtin.firstCells, loadCells, loadCellsFrom]
      rw [hxv, hy1]
      cases bo <;> simp [Builtin.append_, run_underlying (elem_some ht), sizeOf, typeInfo, hi, Builtin.lenOf, hcap, hfc, storeCells, Result.andThen]
    unfold Oper.wp
    rw [append_arg_run hrun, Oper.upon_value]
    obtain ⟨hli, hbr⟩ := hr.hp.bx i bx hL
    have hgr : w.grownBy w none := ⟨rfl, rfl, rfl, Nat.le_refl _, fun _ _ _ => rfl⟩
    simp only [List.append_nil, List.length_nil, Nat.add_zero] at hK ⊢
    rcases VR_ref hv with ⟨k1, k2, _, k3⟩ | ⟨b, Cp, k1, k2, k3⟩
    · have hr' := hr.move (bx' := bx) (r := none) (o := none) hL hgr (fun b hb => by cases hb) (fun b c hb => by cases hb) (fun β' lat hβ => by
        rcases hbr with ⟨q1, q2⟩ | ⟨b', C', cur, ds, q1, _⟩
        · exact ⟨hli, .inl ⟨hβ, q2⟩⟩
        · rw [k1] at q1; cases q1)
      exact hK _ _ _ _ _ _ (hr'.puto (dstOk_spec hd) (VR_ref_mk (.inl ⟨setβ_self _ _ _, k2, rfl, k3⟩))) ⟨rfl, rfl⟩
    · have hr' := hr.move (bx' := bx) (r := none) (o := some (b, Cp)) hL hgr (fun b hb => by cases hb) (fun b' c hb => by injection hb with hb; injection hb with hb hb'; subst hb; exact .inl ⟨Cp, k1⟩) (fun β' lat hβ => by
        rcases hbr with ⟨q1, q2⟩ | ⟨b', C', cur, ds, q1, q2, q3, q4, q5, q6⟩
        · rw [k1] at q1; cases q1
        · rw [k1] at q1
          injection q1 with q1; injection q1 with q1; injection q1 with q1 q1'
          subst q1; subst q1'
          exact ⟨hli, .inr ⟨b, Cp, cur, ds, hβ, q2, q3, q4, VCs_later lat _ _ _ q5, q6⟩⟩)
      exact hK _ _ _ _ _ _ (hr'.puto (dstOk_spec hd) (VR_ref_mk (.inr ⟨b, Cp, setβ_self _ _ _, k2, k3⟩))) ⟨rfl, rfl⟩
  · rcases hy3 with hy3 | ⟨b2, o2, rfl, hcells⟩
    · exact absurd hy3 h0
    · obtain ⟨hli, hbr⟩ := hr.hp.bx i bx hL
      -- the slice as the machine's law wants it
      have hown : ∃ ds, VCs β S w (List.replicate bx.es.length bx.l) bx.es ds ∧ w.ownsRow 0 bx.ty bx.l.len (a.eval x) m ds ∧ ∀ b, (a.eval x).ownBlock = some b → ∃ c, β i = some (some (b, c)) := by
        rcases VR_ref hv with ⟨k1, k2, _, k3⟩ | ⟨b, Cp, k1, k2, k3⟩
        · rcases hbr with ⟨q1, q2⟩ | ⟨b', C', cur, ds, q1, _⟩
          · refine ⟨[], by rw [q2]; simp [VCs], ⟨by simp [k3], .inl ⟨k2, k3⟩⟩, fun b hb => by rw [k2] at hb; cases hb⟩
          · rw [k1] at q1; cases q1
        · rcases hbr with ⟨q1, q2⟩ | ⟨b', C', cur, ds, q1, q2, q3, q4, q5, q6⟩
          · rw [k1] at q1; cases q1
          · rw [k1] at q1
            injection q1 with q1; injection q1 with q1; injection q1 with q1 q1'
            subst q1; subst q1'
            have hdl := (VCs_len _ _ _ q5).1
            rw [lens_replicate, hm] at hdl
            refine ⟨ds, q5, ⟨hdl, .inr ⟨b, Cp, cur, by rw [k2]; simp, Nat.zero_le _, q2, by omega, q4.2, q3, ?_⟩⟩, fun b' hb' => by rw [k2] at hb'; simp [Value.ownBlock] at hb'; subst hb'; exact ⟨Cp, k1⟩⟩
            apply List.ext_getElem?
            intro j
            by_cases hj : j < ds.length
            · rw [List.getElem?_take_of_lt (by omega), List.getElem?_eq_getElem hj]
              have := q6 j ds[j] (List.getElem?_eq_getElem hj)
              simpa using this
            · rw [List.getElem?_eq_none (by rw [List.length_take]; omega), List.getElem?_eq_none (by omega)]
      obtain ⟨ds, hds, hown, hblk⟩ := hown
      have hmul : (m + ys.length) * info.bytes ≤ 140737488355328 := by
        have h1 : (m + ys.length) * info.bytes ≤ 1099511627776 * 128 := Nat.mul_le_mul hlim' (by omega)
        omega
      obtain ⟨v', w', hrun, hown', hgrow, _, hat⟩ := run_append_own_at (P := P) w 0 t ty bx.ty info z bx.l.len info.bytes (elem_some ht) hi hzz hsz rfl hzl hpos (a.eval x) m ds hown ⟨b2, o2, none⟩ ys.length c news hnl
        (fun j u hu => by rw [Addr.add_lit]; exact hcells j u hu) (fun u hu => oneCell_of_scalar (VCs_scalar _ _ _ hy2 u hu)) (by simp only [maxLen]; omega) hmul (Nat.zero_le _)
      rw [← hy1] at hrun
      unfold Oper.wp
      rw [append_arg_run hrun, Oper.upon_value]
      rcases hown'.2 with ⟨_, hz0⟩ | ⟨g, cap, cur, hv', _, hg, hle, hcm, hcs, htk⟩
      · omega
      · have hrr : ∀ b, (a.eval x).ownBlock = some b → ∃ c, β i = some (some (b, c)) := hblk
        have hcase : (∃ c', β i = some (some (g, c'))) ∨ (g = w.heap.size ∧ g < w'.heap.size) := by
          rw [hv'] at hat
          simp only [Value.ownBlock] at hat
          rcases hat with hat | hat
          · exact .inl (hblk g hat.symm)
          · injection hat with hat
            exact .inr ⟨hat, (Array.getElem?_eq_some_iff.1 hg).1⟩
        have hr' := hr.move (bx' := ⟨bx.ty, bx.l, bx.es ++ ys⟩) (r := (a.eval x).ownBlock) (o := some (g, cap)) hL hgrow hrr (fun b c hb => by injection hb with hb; injection hb with hb hb'; subst hb; exact hcase) (fun β' lat hβ => by
          refine ⟨by simp only [List.length_append, hm]; exact hlim, .inr ⟨g, cap, cur, ds ++ news, hβ, hg, hcs, ⟨by simp only [List.length_append, hm]; exact hle, hcm⟩, app β' w' ds lat hds, fun j x hx => ?_⟩⟩
          have hj := lt_of_get hx
          have hl2 : (ds ++ news).length = (m + ys.length) * bx.l.len := hown'.1
          have h9 : (cur.toList.take ((m + ys.length) * bx.l.len))[j]? = some x := by rw [htk]; exact hx
          rw [List.getElem?_take_of_lt (by omega)] at h9
          simpa using h9)
        refine hK _ _ _ _ _ _ (hr'.puto (dstOk_spec hd) (VR_ref_mk (.inr ⟨g, cap, setβ_self _ _ _, ?_, by omega⟩))) ⟨rfl, rfl⟩
        rw [hv']
        simp

theorem AL_append {t e : TypeId} {x y : Operand} {l : Lay} {i m bytes : Nat} {bx : Box} {ys : List V} {z : Value} (hx : ev f x = .ref l i 0 m) (hL : L[i]? = some (some bx)) (hl : bx.l = l) (ht : tyElem P t = some e) (hs : tySize P e = some l.len) (hz : tyZero P e = some (some z)) (hzl : z.cells.size = l.len) (hb : tyBytes P e = some bytes) (hb128 : bytes ≤ 128)
    (hpos : 0 < l.len) (he : bx.ty = e) (hm : bx.es.length = m) (src : Src C n f L y l ys) (hlim : m + ys.length ≤ lim) (q : Nat) (hq : L.length = q) (hd : dstOk n dst = true)
    (h : AL P C n ops rest Q (updo f dst (.ref l q 0 (m + ys.length))) (L.set i none ++ [some ⟨e, l, bx.es ++ ys⟩])) : AL P C n ops (⟨dst, callB .append #[x, y] #[t, t], ty, pos, after, none⟩ :: rest) Q f L := 
  AL_stepQ rfl (St_append hx hL hl ht hs hz hzl hb hb128 hpos he hm src hlim q hq hd) (fun f' L' ⟨h1, h2⟩ => by subst h1; subst h2; exact h)
end
end Go.Eng

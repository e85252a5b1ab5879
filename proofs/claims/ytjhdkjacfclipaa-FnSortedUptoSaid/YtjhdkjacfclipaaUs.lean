/- What no entry reaches. -/
import Derived.Test.YtjhdkjacfclipaaCs
import Derived.Test.YtjhdkjacfclipaaEng28
set_option linter.unusedVariables false
set_option linter.unusedSimpArgs false
namespace Go.Eng
theorem hasS_app (a b : List ByteArray) (x : ByteArray) : hasS (a ++ b) x = (hasS a x || hasS b x) := by
  rw [Bool.eq_iff_iff]; simp [hasS_iff]
theorem hasS_addAll (a b : List ByteArray) (x : ByteArray) : hasS (addAll a b) x = (hasS a x || hasS b x) := by
  rw [Bool.eq_iff_iff]; simp [hasS_iff, addAll_mem]
def appR (d : Dbt) : List ByteArray → List ByteArray → List ByteArray
  | [], out => out
  | e :: r, out => appR d r (out ++ reachedFrom d e)
def addR (d : Dbt) : List ByteArray → List ByteArray → List ByteArray
  | [], out => out
  | e :: r, out => addR d r (addAll out (reachedFrom d e))
theorem appR_has (d : Dbt) (es : List ByteArray) (x : ByteArray) : ∀ out, hasS (appR d es out) x = (hasS out x || es.any fun e => hasS (reachedFrom d e) x) := by
  induction es with
  | nil => intro out; simp [appR]
  | cons e r ih => intro out; rw [appR, ih, hasS_app, List.any_cons, Bool.or_assoc]
theorem addR_has (d : Dbt) (es : List ByteArray) (x : ByteArray) : ∀ out, hasS (addR d es out) x = (hasS out x || es.any fun e => hasS (reachedFrom d e) x) := by
  induction es with
  | nil => intro out; simp [addR]
  | cons e r ih => intro out; rw [addR, ih, hasS_addAll, List.any_cons, Bool.or_assoc]
def wR (d : Dbt) : List ByteArray → Nat
  | [] => 0
  | e :: r => (reachedFrom d e).length + wR d r
theorem wR_le (d : Dbt) (B : Nat) (hB : (d.cs.length : Int) + bulkCs d.cs ≤ B) (es : List ByteArray) : wR d es ≤ es.length * B := by
  induction es with
  | nil => simp [wR]
  | cons e r ih =>
    have := reachedFrom_len d e
    simp only [wR, List.length_cons, Nat.succ_mul]
    omega
theorem wR_bd {d : Dbt} {es : List ByteArray} (h : bulkD d + (es.length + bulkSs es) ≤ 1048576) : es.length + wR d es ≤ 1099511627776 := by
  have h1 := bulkCs_nn d.cs
  have h2 := bulkSs_nn d.op
  have h3 := bulkSs_nn es
  unfold bulkD at h
  obtain ⟨B, hB⟩ : ∃ B : Nat, (B : Int) = d.cs.length + bulkCs d.cs := ⟨(d.cs.length + bulkCs d.cs).toNat, by omega⟩
  have hw := wR_le d B (by omega) es
  have hs : es.length + B ≤ 1048576 := by omega
  by_cases hc : B ≤ 524288
  · have : es.length * B ≤ 1048576 * 524288 := Nat.mul_le_mul (by omega) hc
    omega
  · have : es.length * B ≤ 524288 * 1048576 := Nat.mul_le_mul (by omega) (by omega)
    omega
def unreached (d : Dbt) (es : List ByteArray) : List ByteArray := (predsF d.cs []).filter fun x => !(hasS es x || es.any fun e => hasS (reachedFrom d e) x)
theorem unreached_app (d : Dbt) (es : List ByteArray) : unreached d es = (predsF d.cs []).filter fun x => !hasS (appR d es es) x := by
  unfold unreached; congr 1; funext x; rw [appR_has]
theorem unreached_add (d : Dbt) (es : List ByteArray) : unreached d es = (predsF d.cs []).filter fun x => !hasS (addR d es es) x := by
  unfold unreached; congr 1; funext x; rw [addR_has]
theorem unreached_len (d : Dbt) (es : List ByteArray) : ((unreached d es).length : Int) ≤ d.cs.length := by
  have h1 := List.length_filter_le (fun x => !(hasS es x || es.any fun e => hasS (reachedFrom d e) x)) (predsF d.cs [])
  have h2 := predsF_len d.cs []
  unfold unreached
  simp only [List.length_nil] at h2
  omega
end Go.Eng

/- The engine: append to nil. -/
set_option linter.unusedVariables false
set_option linter.unusedSimpArgs false
namespace Go.Eng
section
variable {P : Program} {C : Cx} {n : Nat} {f : Fr} {L : Hp} {Q : AQ} {ops : Array Oper} {rest : List Oper} {dst : Option Tmp} {ty : TypeId} {pos : String} {after : Array Edge}
theorem append_hv {t e : TypeId} {x y : Operand} {l : Lay} {i m bytes : Nat} {bx : Box} {ys : List V} {z : Value} {a : Act} {w : World} {β : Beta} {S : Nat → Prop} (hr : Rel C n f L a w β S) (hv : VR β S w (.ref l i 0 m) (a.eval x)) (hL : L[i]? = some (some bx)) (hl : bx.l = l) (ht : tyElem P t = some e) (hs : tySize P e = some l.len) (hz : tyZero P e = some (some z)) (hzl : z.cells.size = l.len) (hb : tyBytes P e = some bytes) (hb128 : bytes ≤ 128)
    (hpos : 0 < l.len) (he : bx.ty = e) (hm : bx.es.length = m) (src : Src C n f L y l ys) (hlim : m + ys.length ≤ lim) (hd : dstOk n dst = true) (K : Act → World → Prop) (Qc : Exit → Act → World → Prop)
    (hK : ∀ a' w' β' S' f' L', Rel C n f' L' a' w' β' S' → (f' = updo f dst (.ref l L.length 0 (m + ys.length)) ∧ L' = L.set i none ++ [some ⟨e, l, bx.es ++ ys⟩]) → K a' w') : Oper.wp P ⟨dst, callB .append #[x, y] #[t, t], ty, pos, after, none⟩ a w K Qc := by
  obtain ⟨A, c, news, hy1, hy2, hy3⟩ := src a w β S hr
  subst hl; replace he : bx.ty.t = e := congrArg BT.t he
  subst he
  obtain ⟨info, hi, hby⟩ := Option.map_eq_some_iff.1 hb
  obtain ⟨info', hi', hzz⟩ := Option.map_eq_some_iff.1 hz
  rw [hi] at hi'
  injection hi' with hi'
  subst hi'
  have hsz : info.size = bx.l.len := by
    obtain ⟨i2, hi2, h2⟩ := Option.map_eq_some_iff.1 hs
    rw [hi] at hi2
    injection hi2 with hi2
    subst hi2
    exact h2
  have hnl : news.length = ys.length * bx.l.len := by
    have := (VCs_len _ _ _ hy2).1
    rwa [lens_replicate] at this
  have hlim' : m + ys.length ≤ 1099511627776 := hlim
  -- what both arms hand on
  have app : ∀ (β' : Beta) (w' : World) (ds : List Value), Later β S w β' S w' → VCs β S w (List.replicate bx.es.length bx.l) bx.es ds → VCs β' S w' (List.replicate (bx.es ++ ys).length bx.l) (bx.es ++ ys) (ds ++ news) := by
    intro β' w' ds lat hds
    have key : ∀ (es : List V) (ds : List Value), VCs β S w (List.replicate es.length bx.l) es ds → VCs β S w (List.replicate (es ++ ys).length bx.l) (es ++ ys) (ds ++ news) := by
      intro es
      induction es with
      | nil => intro ds hds; simp only [List.length_nil, List.replicate_zero, VCs] at hds; obtain ⟨_, rfl⟩ := hds; simpa using hy2
      | cons v es ih =>
        intro ds hds
        simp only [List.length_cons, List.replicate_succ, VCs] at hds
        obtain ⟨f0, fr, c1, c2, e0, rfl, h3, h4, h5⟩ := hds
        injection e0 with e1 e2
        subst e1; subst e2
        simp only [List.cons_append, List.length_cons, List.replicate_succ, VCs]
        exact ⟨_, _, c1, c2 ++ news, rfl, by simp, h3, h4, ih c2 h5⟩
    exact VCs_later lat _ _ _ (key _ _ hds)
  by_cases h0 : ys.length = 0
  · -- nothing is appended
    have hys : ys = [] := List.eq_nil_of_length_eq_zero h0
    subst hys
    have hxv : ∃ bo cap, a.eval x = .slice bo m cap ∧ m ≤ cap := by
      rcases VR_ref hv with ⟨_, k2, _, k3⟩ | ⟨b, Cp, _, k2, hle⟩
      · exact ⟨none, 0, by rw [k2, k3], by omega⟩
      · exact ⟨_, _, k2, by omega⟩
    obtain ⟨bo, cap, hxv, hcap⟩ := hxv
    have hrun : (Builtin.append_ #[t, t] ty #[a.eval x, a.eval y]).run P w = .ok (a.eval x) w := by
      have hfc : (Builtin.firstCells info.size 0 (.slice A 0 c)).run P w = .ok #[] w := by
        cases A <;> simp [Builtin.firstCells, loadCells, loadCellsFrom]
      rw [hxv, hy1]
      cases bo <;> simp [Builtin.append_, run_underlying (elem_some ht), sizeOf, typeInfo, hi, Builtin.lenOf, hcap, hfc, storeCells, Result.andThen]
    unfold Oper.wp
    rw [append_arg_run hrun, Oper.upon_value]
    obtain ⟨hli, hbr⟩ := hr.hp.bx i bx hL
    have hgr : w.grownBy w none := ⟨rfl, rfl, rfl, Nat.le_refl _, fun _ _ _ => rfl⟩
    simp only [List.append_nil, List.length_nil, Nat.add_zero] at hK ⊢
    rcases VR_ref hv with ⟨k1, k2, _, k3⟩ | ⟨b, Cp, k1, k2, k3⟩
    · have hr' := hr.move (hna := rfl) (bx' := ⟨bx.ty.t, bx.l, bx.es⟩) (r := none) (o := none) hL hgr (fun b hb => by cases hb) (fun b c hb => by cases hb) (fun β' lat hβ => by
        rcases hbr with ⟨q1, q2⟩ | ⟨b', C', cur, ds, q1, _⟩
        · exact ⟨hli, .inl ⟨hβ, q2⟩⟩
        · rw [k1] at q1; cases q1)
      exact hK _ _ _ _ _ _ (hr'.puto (dstOk_spec hd) (VR_ref_mk (.inl ⟨setβ_self _ _ _, k2, rfl, k3⟩))) ⟨rfl, rfl⟩
    · have hr' := hr.move (hna := rfl) (bx' := ⟨bx.ty.t, bx.l, bx.es⟩) (r := none) (o := some (b, Cp)) hL hgr (fun b hb => by cases hb) (fun b' c hb => by injection hb with hb; injection hb with hb hb'; subst hb; exact .inl ⟨Cp, k1⟩) (fun β' lat hβ => by
        rcases hbr with ⟨q1, q2⟩ | ⟨b', C', cur, ds, q1, q2, q3, q4, q5, q6⟩
        · rw [k1] at q1; cases q1
        · rw [k1] at q1
          injection q1 with q1; injection q1 with q1; injection q1 with q1 q1'
          subst q1; subst q1'
          exact ⟨hli, .inr ⟨b, Cp, cur, ds, hβ, q2, q3, q4, VCs_later lat _ _ _ q5, q6⟩⟩)
      exact hK _ _ _ _ _ _ (hr'.puto (dstOk_spec hd) (VR_ref_mk (.inr ⟨b, Cp, setβ_self _ _ _, k2, k3⟩))) ⟨rfl, rfl⟩
  · rcases hy3 with hy3 | ⟨b2, o2, rfl, hcells⟩
    · exact absurd hy3 h0
    · obtain ⟨hli, hbr⟩ := hr.hp.bx i bx hL
      -- the slice as the machine's law wants it
      have hown : ∃ ds, VCs β S w (List.replicate bx.es.length bx.l) bx.es ds ∧ w.ownsRow 0 bx.ty.t bx.l.len (a.eval x) m ds ∧ ∀ b, (a.eval x).ownBlock = some b → ∃ c, β i = some (some (b, c)) := by
        rcases VR_ref hv with ⟨k1, k2, _, k3⟩ | ⟨b, Cp, k1, k2, k3⟩
        · rcases hbr with ⟨q1, q2⟩ | ⟨b', C', cur, ds, q1, _⟩
          · refine ⟨[], by rw [q2]; simp [VCs], ⟨by simp [k3], .inl ⟨k2, k3⟩⟩, fun b hb => by rw [k2] at hb; cases hb⟩
          · rw [k1] at q1; cases q1
        · rcases hbr with ⟨q1, q2⟩ | ⟨b', C', cur, ds, q1, q2, q3, q4, q5, q6⟩
          · rw [k1] at q1; cases q1
          · rw [k1] at q1
            injection q1 with q1; injection q1 with q1; injection q1 with q1 q1'
            subst q1; subst q1'
            have hdl := (VCs_len _ _ _ q5).1
            rw [lens_replicate, hm] at hdl
            refine ⟨ds, q5, ⟨hdl, .inr ⟨b, Cp, cur, by rw [k2]; simp, Nat.zero_le _, q2, by omega, q4.2, q3, ?_⟩⟩, fun b' hb' => by rw [k2] at hb'; simp [Value.ownBlock] at hb'; subst hb'; exact ⟨Cp, k1⟩⟩
            apply List.ext_getElem?
            intro j
            by_cases hj : j < ds.length
            · rw [List.getElem?_take_of_lt (by omega), List.getElem?_eq_getElem hj]
              have := q6 j ds[j] (List.getElem?_eq_getElem hj)
              simpa using this
            · rw [List.getElem?_eq_none (by rw [List.length_take]; omega), List.getElem?_eq_none (by omega)]
      obtain ⟨ds, hds, hown, hblk⟩ := hown
      have hmul : (m + ys.length) * info.bytes ≤ 140737488355328 := by
        have h1 : (m + ys.length) * info.bytes ≤ 1099511627776 * 128 := Nat.mul_le_mul hlim' (by omega)
        omega
      obtain ⟨v', w', hrun, hown', hgrow, _, hat⟩ := run_append_own_at (P := P) w 0 t ty bx.ty.t info z bx.l.len info.bytes (elem_some ht) hi hzz hsz rfl hzl hpos (a.eval x) m ds hown ⟨b2, o2, none⟩ ys.length c news hnl
        (fun j u hu => by rw [Addr.add_lit]; exact hcells j u hu) (fun u hu => oneCell_of_scalar (VCs_scalar _ _ _ hy2 u hu)) (by simp only [maxLen]; omega) hmul (Nat.zero_le _)
      rw [← hy1] at hrun
      unfold Oper.wp
      rw [append_arg_run hrun, Oper.upon_value]
      rcases hown'.2 with ⟨_, hz0⟩ | ⟨g, cap, cur, hv', _, hg, hle, hcm, hcs, htk⟩
      · omega
      · have hrr : ∀ b, (a.eval x).ownBlock = some b → ∃ c, β i = some (some (b, c)) := hblk
        have hcase : (∃ c', β i = some (some (g, c'))) ∨ (g = w.heap.size ∧ g < w'.heap.size) := by
          rw [hv'] at hat
          simp only [Value.ownBlock] at hat
          rcases hat with hat | hat
          · exact .inl (hblk g hat.symm)
          · injection hat with hat
            exact .inr ⟨hat, (Array.getElem?_eq_some_iff.1 hg).1⟩
        have hr' := hr.move (hna := rfl) (bx' := ⟨bx.ty.t, bx.l, bx.es ++ ys⟩) (r := (a.eval x).ownBlock) (o := some (g, cap)) hL hgrow hrr (fun b c hb => by injection hb with hb; injection hb with hb hb'; subst hb; exact hcase) (fun β' lat hβ => by
          refine ⟨by simp only [List.length_append, hm]; exact hlim, .inr ⟨g, cap, cur, ds ++ news, hβ, hg, hcs, ⟨by simp only [List.length_append, hm]; exact hle, hcm⟩, app β' w' ds lat hds, fun j x hx => ?_⟩⟩
          have hj := lt_of_get hx
          have hl2 : (ds ++ news).length = (m + ys.length) * bx.l.len := hown'.1
          have h9 : (cur.toList.take ((m + ys.length) * bx.l.len))[j]? = some x := by rw [htk]; exact hx
          rw [List.getElem?_take_of_lt (by omega)] at h9
          simpa using h9)
        refine hK _ _ _ _ _ _ (hr'.puto (dstOk_spec hd) (VR_ref_mk (.inr ⟨g, cap, setβ_self _ _ _, ?_, by omega⟩))) ⟨rfl, rfl⟩
        rw [hv']
        simp


theorem AL_appendn {t e : TypeId} {x y : Operand} {l : Lay} {bytes : Nat} {ys : List D} {z : Value} (hx : ev f x = nilsl) (ht : tyElem P t = some e) (hs : tySize P e = some l.len) (hz : tyZero P e = some (some z)) (hzl : z.cells.size = l.len) (hb : tyBytes P e = some bytes) (hb128 : bytes ≤ 128)
    (hpos : 0 < l.len) (hy : ev f y = .d (.sl l ys)) (hlim : ys.length ≤ lim) (q : Nat) (hq : L.length = q) (hd : dstOk n dst = true)
    (h : AL P C n ops rest Q (updo f dst (.ref l (q + 1) 0 ys.length)) (L ++ [none, some ⟨e, l, ys.map V.d⟩])) : AL P C n ops (⟨dst, callB .append #[x, y] #[t, t], ty, pos, after, none⟩ :: rest) Q f L := by
  subst hq
  intro a w β S hr0
  refine wpList_plain rfl fun Kc hK => ?_
  have hr := hr0.virt e l
  have hxv : a.eval x = .slice none 0 0 := by
    have := rel_ev hr0 x
    rw [hx] at this
    exact (VR_c.1 this).1
  refine append_hv (i := L.length) (m := 0) (bx := ⟨e, l, []⟩) (ys := ys.map V.d) hr ?_ (by simp) rfl ht hs hz hzl hb hb128 hpos rfl rfl (Src_sl hy) (by simpa using hlim) hd Kc _ fun a' w' β' S' f' L' hr' hz => ?_
  · rw [hxv]
    refine .inr ⟨?_, rfl⟩
    show VC _ _ _ _ [_]
    simp only [VC]
    exact .inl ⟨setβ_self _ _ _, by first | rfl | trivial, by first | rfl | trivial, by first | rfl | trivial⟩
  · obtain ⟨rfl, rfl⟩ := hz
    refine hK _ _ (h a' w' β' S' ?_)
    have e1 : (L ++ [some (⟨e, l, []⟩ : Box)]).set L.length none ++ [some (⟨e, l, [] ++ ys.map V.d⟩ : Box)] = L ++ [none, some ⟨e, l, ys.map V.d⟩] := by
      rw [List.set_append_right _ _ (by simp)]
      simp
    have e2 : (L ++ [some (⟨e, l, []⟩ : Box)]).length = L.length + 1 := by simp
    rw [e1, e2] at hr'
    simpa using hr'
end
end Go.Eng

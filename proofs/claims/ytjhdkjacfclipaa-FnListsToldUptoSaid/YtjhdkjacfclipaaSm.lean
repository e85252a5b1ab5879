/- Calls over boxes that hand out values; a list's end let go; terms that are the same; runs of one kept once. -/
import Derived.Test.YtjhdkjacfclipaaSl
import Derived.Laws.CopyRow
set_option linter.unusedVariables false
set_option linter.unusedSimpArgs false
namespace Go.Eng
/-! ### Terms that are the same -/
mutual
def sameB : T → T → Bool
  | .mk k s m ks, .mk k2 s2 m2 ks2 => decide (k = k2) && decide (s = s2) && decide (m = m2) && sameBL ks ks2
def sameBL : List T → List T → Bool
  | [], [] => true
  | a :: r, b :: r2 => sameB a b && sameBL r r2
  | _, _ => false
end
mutual
theorem sameB_iff : ∀ (a b : T), sameB a b = true ↔ a = b
  | .mk k s m ks, .mk k2 s2 m2 ks2 => by
    have h := sameBL_iff ks ks2
    simp only [sameB, Bool.and_eq_true, decide_eq_true_eq, h, T.mk.injEq, and_assoc]
theorem sameBL_iff : ∀ (a b : List T), sameBL a b = true ↔ a = b
  | [], [] => by simp [sameBL]
  | a :: r, b :: r2 => by
    have h1 := sameB_iff a b
    have h2 := sameBL_iff r r2
    simp only [sameBL, Bool.and_eq_true, h1, h2, List.cons.injEq]
  | [], _ :: _ => by simp [sameBL]
  | _ :: _, [] => by simp [sameBL]
end
theorem sameB_ne {a b : T} (h : sameB a b = false) : a ≠ b := fun e => by rw [(sameB_iff a b).2 e] at h; cases h
theorem sameBL_len : ∀ {a b : List T}, sameBL a b = true → a.length = b.length := fun h => by rw [(sameBL_iff _ _).1 h]
instance : DecidableEq T := fun a b => if h : sameB a b = true then isTrue ((sameB_iff a b).1 h) else isFalse fun e => h ((sameB_iff a b).2 e)
/-! ### Runs of one term are kept once -/
def ddQ (prev : T) : List TD → List TD
  | [] => []
  | y :: r => if y.1 = prev then ddQ y.1 r else y :: ddQ y.1 r
def dd : List TD → List TD
  | [] => []
  | x :: r => x :: ddQ x.1 r
def ddT (prev : Option T) : List T → List T
  | [] => []
  | y :: r => if some y = prev then ddT (some y) r else y :: ddT (some y) r
theorem ddQ_sub : ∀ (p : T) (ps : List TD), (ddQ p ps).Sublist ps
  | _, [] => .slnil
  | p, y :: r => by
    rw [ddQ]
    split
    · exact (ddQ_sub _ r).cons _
    · exact (ddQ_sub _ r).cons_cons _
theorem dd_sub : ∀ ps : List TD, (dd ps).Sublist ps
  | [] => .slnil
  | x :: r => (ddQ_sub _ r).cons_cons _
theorem ddQ_fst : ∀ (p : T) (ps : List TD), (ddQ p ps).map (·.1) = ddT (some p) (ps.map (·.1))
  | _, [] => rfl
  | p, y :: r => by
    rw [ddQ, List.map_cons, ddT]
    by_cases h : y.1 = p
    · rw [if_pos h, if_pos (by rw [h]), ddQ_fst]
    · rw [if_neg h, if_neg (by simpa using h), List.map_cons, ddQ_fst]
theorem dd_fst (ps : List TD) : (dd ps).map (·.1) = ddT none (ps.map (·.1)) := by
  cases ps with
  | nil => rfl
  | cons x r => simp only [dd, List.map_cons, ddT, ddQ_fst, reduceCtorEq, if_false]
theorem sub_of_map {A B : Type} (g : A → B) : ∀ {l1 l2 : List B}, l1.Sublist l2 → ∀ zs : List A, l2 = zs.map g → ∃ zs' : List A, zs'.Sublist zs ∧ l1 = zs'.map g := by
  intro l1 l2 h
  induction h with
  | slnil => intro zs e; cases zs with
    | nil => exact ⟨[], .slnil, rfl⟩
    | cons z r => simp at e
  | cons x _ ih =>
    intro zs e
    cases zs with
    | nil => simp at e
    | cons z r =>
      simp at e
      obtain ⟨r', k1, k2⟩ := ih r e.2
      exact ⟨r', k1.cons _, k2⟩
  | cons_cons x _ ih =>
    intro zs e
    cases zs with
    | nil => simp at e
    | cons z r =>
      simp at e
      obtain ⟨r', k1, k2⟩ := ih r e.2
      exact ⟨z :: r', k1.cons_cons z, by rw [k2, e.1]; rfl⟩
theorem TrZ.sub {w : World} {l : Lay} {zs zs' : List (D × List Value)} (h : zs'.Sublist zs) : ∀ K, TrZ w l zs K → ∃ K', TrZ w l zs' K' ∧ ∀ b ∈ K', b ∈ K := by
  induction h with
  | slnil => intro K h; exact ⟨K, h, fun _ h => h⟩
  | cons z _ ih =>
    intro K h
    obtain ⟨M1, M2, rfl, k2, k3, k4, k5⟩ := TrZ.cons_iff.1 h
    obtain ⟨K', q1, q2⟩ := ih M2 k5
    exact ⟨K', q1, fun b hb => by simp [q2 b hb]⟩
  | cons_cons z _ ih =>
    intro K h
    obtain ⟨M1, M2, rfl, k2, k3, k4, k5⟩ := TrZ.cons_iff.1 h
    obtain ⟨K', q1, q2⟩ := ih M2 k5
    refine ⟨M1 ++ K', TrZ.cons_iff.2 ⟨M1, K', rfl, fun b hb hb2 => k2 b hb (q2 b hb2), k3, k4, q1⟩, fun b hb => ?_⟩
    rcases List.mem_append.1 hb with hb | hb
    · simp [hb]
    · simp [q2 b hb]
theorem compact_back {B : Nat} {C : Cx} {css : List (List Value)} {ts : List T} {K : List Nat} (h : HasL B C LT css (injs ts) K) {ys : List TD} (hy : ys.Sublist (psZ (ts.zip css))) : ∃ css' K', dsP ys = css'.map (rawD LT) ∧ css'.length = ys.length ∧ HasL B C LT css' (injs (ys.map (·.1))) K' := by
  obtain ⟨zs, h1, rfl⟩ := sub_of_map _ hy _ rfl
  obtain ⟨K', k1, k2⟩ := TrZ.sub (h1.map fun z => (inj z.1, z.2)) K h.trz
  refine ⟨zs.map (·.2), K', ?_, ?_, ?_⟩
  · simp [dsP]
  · simp
  · have e1 : (zs.map fun z => ((z.1, rawD LT z.2) : TD)).map (·.1) = zs.map (·.1) := by simp
    rw [e1]
    refine ⟨?_, by simp, fun c hc => ?_, fun b hb => h.dm b (k2 b hb), fun b hb => h.s0 b (k2 b hb), fun b hb => h.lo b (k2 b hb)⟩
    · have := k1.1
      simp only [List.length_map, List.map_map] at this
      rw [injs_map]
      simpa [Function.comp_def] using this
    · obtain ⟨z, hz, rfl⟩ := List.mem_map.1 hc
      exact k1.2 (inj z.1, z.2) (List.mem_map.2 ⟨z, hz, rfl⟩)
theorem flat_sub {zs : List TZ} {ys : List TD} (hy : ys.Sublist (psZ zs)) : ∀ v ∈ (dsP ys).map V.d, v.flatv = true := by
  intro v hv
  obtain ⟨d, hd, rfl⟩ := List.mem_map.1 hv
  obtain ⟨p, hp, rfl⟩ := List.mem_map.1 hd
  obtain ⟨z, hz, rfl⟩ := List.mem_map.1 (hy.subset hp)
  exact rawD_flat _ _
/-- The walk that keeps: what is kept stands ahead of what there was. -/
theorem dd_start {ps : List TD} {x : TD} (h : ps[0]? = some x) : dd ps = ps.take 1 ++ ddQ x.1 (ps.drop 1) := by
  cases ps with
  | nil => simp at h
  | cons y r => simp at h; subst h; simp [dd]
theorem ddQ_get {ps : List TD} {i : Nat} {x : TD} (p : T) (h : ps[i]? = some x) : ddQ p (ps.drop i) = if x.1 = p then ddQ x.1 (ps.drop (i + 1)) else x :: ddQ x.1 (ps.drop (i + 1)) := by
  rw [drop_get h, ddQ]
theorem dd_short {ps : List TD} (h : ps.length < 2) : dd ps = ps := by
  match ps, h with
  | [], _ => rfl
  | [x], _ => rfl
  | _ :: _ :: _, h => simp at h; omega
theorem sortF_rt {ts : List T} {t : T} (h : t ∈ sortF ts []) : Rt t := by
  have hp := (sortF_spec ts [] (by simp) (by simp [Srt])).2
  rw [List.nil_append] at hp
  exact filter_rt ts t (hp.mem_iff.1 h)
theorem sortF_len (ts : List T) : (sortF ts []).length ≤ ts.length := by
  have hp := (sortF_spec ts [] (by simp) (by simp [Srt])).2
  rw [List.nil_append] at hp
  rw [hp.length_eq]
  exact List.length_filter_le _ _

section
variable {P : Program} {C : Cx} {n : Nat} {f : Fr} {L : Hp} {Q : AQ} {ops : Array Oper} {rest : List Oper} {dst : Option Tmp} {ty : TypeId} {pos : String} {after : Array Edge} {a : Act} {w w' : World} {β : Beta} {S S' : Nat → Prop} {i : Nat} {r : List Nat}
/-! ### A list's end is let go -/
theorem VCs_take {l : Lay} : ∀ (es : List V) (m : Nat) (ds : List Value), VCs β S w (List.replicate es.length l) es ds → ∃ d1 d2, ds = d1 ++ d2 ∧ VCs β S w (List.replicate (es.take m).length l) (es.take m) d1
  | [], m, ds, h => by
    simp only [List.take_nil]
    exact ⟨ds, [], by simp, h⟩
  | v :: es, 0, ds, h => ⟨[], ds, rfl, by simp [VCs]⟩
  | v :: es, m + 1, ds, h => by
    simp only [List.length_cons, List.replicate_succ, VCs] at h
    obtain ⟨f0, fr, c1, c2, e0, rfl, h3, h4, h5⟩ := h
    injection e0 with e1 e2
    subst e1; subst e2
    obtain ⟨d1, d2, rfl, k⟩ := VCs_take es m c2 h5
    refine ⟨c1 ++ d1, d2, by simp, ?_⟩
    simp only [List.take_succ_cons, List.length_cons, List.replicate_succ, VCs]
    exact ⟨_, _, c1, d1, rfl, rfl, h3, h4, k⟩
theorem Rel.prefix_ {i : Nat} (h : Rel C n f L a w β S) {bx : Box} (hL : L[i]? = some (some bx)) (m : Nat) : Rel C n f (L.set i (some { bx with es := bx.es.take m })) a w β S := by
  have hLi : i < L.length := lt_of_get hL
  have cases_ : ∀ j bx', (L.set i (some { bx with es := bx.es.take m }))[j]? = some (some bx') → (j ≠ i ∧ L[j]? = some (some bx')) ∨ (j = i ∧ bx' = { bx with es := bx.es.take m }) := fun j bx' hj => by
    rw [List.getElem?_set] at hj
    by_cases e : i = j
    · subst e
      rw [if_pos rfl, if_pos hLi] at hj
      exact .inr ⟨rfl, by injection hj with hj; injection hj with hj; exact hj.symm⟩
    · rw [if_neg e] at hj
      exact .inl ⟨fun h => e h.symm, hj⟩
  have live : ∀ j bx', (L.set i (some { bx with es := bx.es.take m }))[j]? = some (some bx') → ∃ bx'', L[j]? = some (some bx'') := fun j bx' hj => by
    rcases cases_ j bx' hj with ⟨_, h⟩ | ⟨rfl, _⟩
    · exact ⟨_, h⟩
    · exact ⟨_, hL⟩
  refine ⟨h.df, h.sz, h.fr, ⟨?_, ?_, ?_, h.hp.fz, fun j hj => h.hp.un j (by simpa using hj), ?_⟩, ?_, h.fz, h.s0, h.pres⟩
  · intro j bx' hj
    rcases cases_ j bx' hj with ⟨_, hj'⟩ | ⟨rfl, rfl⟩
    · exact h.hp.bx j bx' hj'
    · obtain ⟨q0, q⟩ := h.hp.bx j bx hL
      refine ⟨by simp only [List.length_take]; omega, ?_⟩
      rcases q with ⟨q1, q2⟩ | ⟨b, Cp, cur, ds, q1, q2, q3, q4, q5, q6⟩
      · exact .inl ⟨q1, by simp [q2]⟩
      · obtain ⟨d1, d2, rfl, k⟩ := VCs_take bx.es m ds q5
        refine .inr ⟨b, Cp, cur, d1, q1, q2, q3, ⟨by simp only [List.length_take]; omega, q4.2⟩, k, fun p x hp => q6 p x (by rw [List.getElem?_append_left (lt_of_get hp)]; exact hp)⟩
  · intro j j' c bx1 bx2 cc cc' hj hj' hc hc'
    obtain ⟨y1, hy1⟩ := live j bx1 hj
    obtain ⟨y2, hy2⟩ := live j' bx2 hj'
    exact h.hp.inj j j' c y1 y2 cc cc' hy1 hy2 hc hc'
  · intro j bx1 c cc hj hc
    obtain ⟨y1, hy1⟩ := live j bx1 hj
    exact h.hp.own j y1 c cc hy1 hc
  · intro j bx1 q hj hq
    rcases cases_ j bx1 hj with ⟨_, hj'⟩ | ⟨rfl, rfl⟩
    · exact h.hp.ad j bx1 q hj' hq
    · exact h.hp.ad _ bx q hL hq
  · intro j bx1 c cc hj hc
    obtain ⟨y1, hy1⟩ := live j bx1 hj
    exact h.own j y1 c cc hy1 hc
theorem Rel.beyond {i : Nat} (h : Rel C n f L a w β S) {b' C' : Nat} {bx : Box} {new : List Value} {cur : Array Value} (hL : L[i]? = some (some bx)) (h1 : β i = some (some (b', C')))
    (h2 : w.heap[b']? = some (.cells cur bx.ty.t (0, 0))) (h3 : cur.size = C' * bx.l.len) (hfit : bx.es.length * bx.l.len + new.length ≤ cur.size) (hs : ∀ u ∈ new, Value.scalar u = true) :
    ∃ w', (storeCells ⟨b', bx.es.length * bx.l.len, none⟩ new).run P w = .ok () w' ∧ Rel C n f L a w' β S := by
  have hrun := run_storeCells_at P b' (bx.es.length * bx.l.len) bx.ty.t new 0 cur w h2 (by simpa using hfit) (fun v hv => oneCell_of_scalar (hs v hv))
  simp only [Nat.add_zero] at hrun
  refine ⟨_, hrun, ?_⟩
  have hbS : ¬ S b' := h.hp.own i bx b' C' hL h1
  have lat : Later β S w β S (w.setRow b' (cur.toList.take (bx.es.length * bx.l.len) ++ new ++ cur.toList.drop (bx.es.length * bx.l.len + new.length)).toArray) :=
    ⟨fun _ _ h => h, fun _ h => h, fun c hc => setRow_other w b' c _ (fun e => hbS (e ▸ hc))⟩
  have hsz : (w.setRow b' (cur.toList.take (bx.es.length * bx.l.len) ++ new ++ cur.toList.drop (bx.es.length * bx.l.len + new.length)).toArray).heap.size = w.heap.size := by simp [World.setRow]
  refine h.later lat ⟨?_, h.hp.inj, h.hp.own, fun c hc => by rw [hsz]; exact h.hp.fz c hc, h.hp.un, h.hp.ad⟩ h.own h.fz ?_
  · intro j bx' hj
    by_cases e : j = i
    · subst e
      rw [hL] at hj
      injection hj with hj; injection hj with hj
      subst hj
      obtain ⟨q0, q⟩ := h.hp.bx j bx hL
      refine ⟨q0, ?_⟩
      rcases q with ⟨q1, _⟩ | ⟨b, Cp, cur', ds, q1, q2, q3, q4, q5, q6⟩
      · rw [h1] at q1; cases q1
      · rw [h1] at q1
        injection q1 with q1; injection q1 with q1; injection q1 with q1 q1'
        subst q1; subst q1'
        rw [h2] at q2
        injection q2 with q2
        injection q2 with q2
        subst q2
        have hl := (VCs_len _ _ _ q5).1
        rw [lens_replicate] at hl
        refine .inr ⟨b', C', _, ds, h1, setRow_heap w b' cur _ _ _ h2, ?_, q4, VCs_later lat _ _ _ q5, fun p x hp => ?_⟩
        · have : (cur.toList.take (bx.es.length * bx.l.len) ++ new ++ cur.toList.drop (bx.es.length * bx.l.len + new.length)).length = cur.size := by simp; omega
          simpa [h3] using this
        · have hp2 := lt_of_get hp
          have hq : (cur.toList.take (bx.es.length * bx.l.len) ++ new ++ cur.toList.drop (bx.es.length * bx.l.len + new.length))[p]? = some x := by
            rw [List.append_assoc, List.getElem?_append_left (by simp; omega), List.getElem?_take_of_lt (by omega)]
            have := q6 p x hp
            simpa using this
          simpa using hq
    · exact BoxR_later lat (fun c cc hc => setRow_other w b' c _ (fun e2 => e (h.hp.inj j i b' bx' bx cc C' hj hL (e2 ▸ hc) h1))) (h.hp.bx j bx' hj)
  · refine ⟨h.pres.os, h.pres.tape, h.pres.output, by rw [hsz]; exact h.pres.size, fun c hc hd => ?_⟩
    rw [setRow_other w b' c _ ?_]
    · exact h.pres.block c hc hd
    · intro e
      subst e
      rcases h.own i bx c C' hL h1 with h8 | h8
      · exact hd h8
      · omega
theorem zeroCells_scalar {z : Value} {k : Nat} (h : ∀ u ∈ z.cells.toList, Value.scalar u = true) : ∀ u ∈ (Builtin.zeroCells z.cells k).toList, Value.scalar u = true := by
  intro u hu
  simp only [Builtin.zeroCells, Array.toList_map, Array.toList_range, List.mem_map, List.mem_range] at hu
  obtain ⟨j, hj, rfl⟩ := hu
  by_cases h0 : z.cells.size = 0
  · rw [h0] at hj; simp at hj
  · have hlt : j % z.cells.size < z.cells.size := Nat.mod_lt _ (by omega)
    rw [getElem!_pos z.cells _ hlt]
    exact h _ (by simp)
theorem zeroCells_len (z : Value) (k : Nat) : (Builtin.zeroCells z.cells k).toList.length = k * z.cells.size := by simp [Builtin.zeroCells]
theorem clear_arg_run {x : Operand} {t : TypeId} {v : Value} (h : (Builtin.clear_ #[t] ty #[a.eval x]).run P w = .ok v w') :
    (execOp a.eval ⟨dst, callB .clear #[x] #[t], ty, pos, after, none⟩).run P w = .ok (.value v) w' := by
  simp only [execOp, resolve, invoke, builtin, Sem.run_bind, Sem.run_pure, Result.andThen]
  simp [h, Result.andThen]
theorem AL_clear {i : Nat} {t e : TypeId} {x : Operand} {l : Lay} {off m : Nat} {bx : Box} {z : Value} (hx : ev f x = .ref l i off m) (hL : L[i]? = some (some bx)) (hl : bx.l = l) (ht : tyElem P t = some e) (hs : tySize P e = some l.len) (hz : tyZero P e = some (some z)) (hzl : z.cells.size = l.len) (hzs : ∀ u ∈ z.cells.toList, Value.scalar u = true)
    (hm : off + m = bx.es.length) (h : AL P C n ops rest Q f (L.set i (some { bx with es := bx.es.take off }))) : AL P C n ops (⟨none, callB .clear #[x] #[t], ty, pos, after, none⟩ :: rest) Q f L := by
  intro a w β S hr
  refine wpList_plain rfl fun K hK => ?_
  have hv := rel_ev hr x
  rw [hx] at hv
  have hr1 := hr.prefix_ hL off
  have hLi : i < L.length := lt_of_get hL
  have hL1 : (L.set i (some { bx with es := bx.es.take off }))[i]? = some (some { bx with es := bx.es.take off }) := by rw [List.getElem?_set]; simp [hLi]
  obtain ⟨info, hi, hzz⟩ := Option.map_eq_some_iff.1 hz
  have hzv : ∀ w, (zeroValue e).run P w = .ok z w := fun w => zeroValue_run hz w
  unfold Oper.wp
  rcases VR_ref hv with ⟨k1, k2, k3, k4⟩ | ⟨b, Cp, k1, k2, k3⟩
  · have hrun : (Builtin.clear_ #[t] ty #[a.eval x]).run P w = .ok (.tuple #[]) w := by
      rw [k2]
      simp [Builtin.clear_, run_underlying (elem_some ht), Result.andThen]
    rw [clear_arg_run hrun, Oper.upon_value]
    exact hK _ _ (h _ _ _ _ hr1)
  · by_cases h0 : m = 0
    · subst h0
      have hrun : (Builtin.clear_ #[t] ty #[a.eval x]).run P w = .ok (.tuple #[]) w := by
        rw [k2]
        simp [Builtin.clear_, run_underlying (elem_some ht), Result.andThen]
      rw [clear_arg_run hrun, Oper.upon_value]
      exact hK _ _ (h _ _ _ _ hr1)
    · obtain ⟨q0, q⟩ := hr.hp.bx i bx hL
      rcases q with ⟨q1, _⟩ | ⟨b', C', cur, ds, q1, q2, q3, q4, q5, q6⟩
      · rw [k1] at q1; cases q1
      · rw [k1] at q1
        injection q1 with q1; injection q1 with q1; injection q1 with q1 q1'
        subst q1; subst q1'
        subst hl
        have hoff : (bx.es.take off).length = off := by rw [List.length_take]; omega
        have hmul : off * bx.l.len + m * bx.l.len ≤ Cp * bx.l.len := by rw [← Nat.add_mul]; exact Nat.mul_le_mul_right _ k3
        obtain ⟨w', hst, hr'⟩ := hr1.beyond (P := P) (new := (Builtin.zeroCells z.cells m).toList) hL1 k1 q2 q3 (by rw [zeroCells_len, hzl]; simp only [hoff]; omega) (zeroCells_scalar hzs)
        simp only [hoff] at hst
        have hrun : (Builtin.clear_ #[t] ty #[a.eval x]).run P w = .ok (.tuple #[]) w' := by
          rw [k2]
          obtain ⟨m', rfl⟩ : ∃ m', m = m' + 1 := ⟨m - 1, by omega⟩
          simp [Builtin.clear_, run_underlying (elem_some ht), hzv, hst, Result.andThen]
        rw [clear_arg_run hrun, Oper.upon_value]
        exact hK _ _ (h _ _ _ _ hr')
theorem Vw_refo {L : Hp} {src : List (Option Nat)} {l : Lay} {i j off off' m m' : Nat} (hs : srcOf src j = some i) (ho : off = off') (h : m = m') : Vw L src (.ref l i off m) (.ref l j off' m') := by subst ho; subst h; exact .ref hs
/-! ### Calls over boxes that hand out values -/
def HCallR {A : Type} (P : Program) (k : FuncId) (pool : List (D × D)) (args : List V) (Lin : List Box) (stay : Nat) (R : A → Prop) (res : A → List V) (Lout : A → List Box) : Prop :=
  ∀ (w : World) (S : Nat → Prop) (β : Beta) (xs : List Value), Tab P S w → (∀ p ∈ pool, Cv S w p.1 p.2) → HeapR β S w (someL Lin) → All2 (VR0 β S w) args xs →
    Calls P k xs.toArray w fun en w' => ∃ ys q β' S', en = .returned (tupV ys) ∧ R q ∧ All2 (VR0 β' S' w') (res q) ys ∧ HeapR β' S' w' (someL (Lout q)) ∧ (∀ j, j < stay → β' j = β j) ∧
      (∀ b, S b → S' b) ∧ (∀ b, S' b → S b ∨ w.heap.size ≤ b ∨ inBk Lin β b) ∧ Pres (inBk Lin β) w w'
def retRQ {A : Type} (fn : Func) (P : Program) (C0 : Cx) (o : Nat → Option (Nat × Nat)) (stay : Nat) (R : A → Prop) (res : A → List V) (Lout : A → List Box) : AQ := fun en a w => ends en = true ∧ ∃ q, R q ∧ retHP fn P C0 o stay none (res q) (Lout q) a w
theorem hin_rel {args : List V} {Lin : List Box} {stay : Nat} {xs : List Value} {fn : Func} (hn : fn.ntmps = n) (hlen : args.length ≤ n) (hst : stay ≤ Lin.length) (hh : HeapR β S w (someL Lin)) (ha : All2 (VR0 β S w) args xs) :
    ∃ o : Nat → Option (Nat × Nat), (∀ j, j < Lin.length → β j = some (o j)) ∧ Rel ⟨w, inBk Lin β, S⟩ n (frV args) (inL o stay 0 Lin) { tmps := xs.toArray ++ Array.replicate (fn.ntmps - xs.toArray.size) undef, defers := [] } w β S := by
  subst hn
  have hsome : ∀ j, j < Lin.length → ∃ q, β j = some q := fun j hj => by
    have := hh.bx j Lin[j] (someL_mk (List.getElem?_eq_getElem hj))
    rcases this.2 with ⟨h1, _⟩ | ⟨b, Cp, _, _, h1, _⟩
    · exact ⟨_, h1⟩
    · exact ⟨_, h1⟩
  let o : Nat → Option (Nat × Nat) := fun j => match β j with | some q => q | none => none
  have ho : ∀ j, j < Lin.length → β j = some (o j) := fun j hj => by
    obtain ⟨q, hq⟩ := hsome j hj
    simp only [o, hq]
  have hln : ∀ {vs : List V} {zs : List Value}, All2 (VR0 β S w) vs zs → vs.length = zs.length := by
    intro vs zs h
    induction h with
    | nil => rfl
    | cons _ _ ih => simp [ih]
  have hsz := hln ha
  have hget : ∀ {vs : List V} {zs : List Value}, All2 (VR0 β S w) vs zs → ∀ (i : Nat) (v : V), vs[i]? = some v → ∃ z : Value, zs[i]? = some z ∧ VR0 β S w v z := by
    intro vs zs h
    induction h with
    | nil => intro i d h; simp at h
    | cons h1 _ ih =>
      intro i d hi
      cases i with
      | zero => simp at hi; subst hi; exact ⟨_, rfl, h1⟩
      | succ i => simp at hi; simpa using ih i d hi
  have getL : ∀ (j : Nat) (b0 : Box), Lin[j]? = some b0 → (someL Lin)[j]? = some (some b0) := fun j b0 h => someL_mk h
  refine ⟨o, ho, rfl, ?_, fun i => ?_, ⟨?_, ?_, ?_, hh.fz, fun i hi => hh.un i (by simpa [inL_length] using hi), ?_⟩, ?_, fun b hb => .inl hb, fun b hb => hb, Pres.refl _ _⟩
  · simp at hsz ⊢; omega
  · show VR _ _ _ (match args[i]? with | some v => v | none => .any) _
    cases e' : args[i]? with
    | none => exact VR_any ..
    | some v =>
      obtain ⟨z, hz, hv⟩ := hget ha i v e'
      have : (xs.toArray ++ Array.replicate (fn.ntmps - xs.toArray.size) undef).getD i undef = z := by
        have hi := lt_of_get hz
        rw [Array.getD_eq_getD_getElem?, Array.getElem?_append_left (by simpa using hi), List.getElem?_toArray, hz]
        rfl
      simp only
      rw [this]
      exact VR_of_VR0 hv
  · intro i b hi
    obtain ⟨b0, h1, rfl⟩ := inL_get Lin 0 i b hi
    exact hh.bx i b0 (getL i b0 h1)
  · intro i j b bx bx' c c' hi hj hb hb'
    obtain ⟨b0, h1, rfl⟩ := inL_get Lin 0 i bx hi
    obtain ⟨b0', h1', rfl⟩ := inL_get Lin 0 j bx' hj
    exact hh.inj i j b b0 b0' c c' (getL i b0 h1) (getL j b0' h1') hb hb'
  · intro i bx b c hi hbi
    obtain ⟨b0, h1, rfl⟩ := inL_get Lin 0 i bx hi
    exact hh.own i b0 b c (getL i b0 h1) hbi
  · intro i bx q hi hq
    obtain ⟨b0, h1, rfl⟩ := inL_get Lin 0 i bx hi
    simp only [Nat.zero_add] at hq
    cases e : Nat.blt i stay with
    | false => rw [e] at hq; cases hq
    | true =>
      rw [e] at hq
      injection hq with hq
      rw [ho i (lt_of_get h1), hq]
  · intro i bx b c hi hbi
    obtain ⟨b0, h1, rfl⟩ := inL_get Lin 0 i bx hi
    exact .inl ⟨i, b0, c, h1, hbi⟩
theorem HCallR_of {A : Type} {R : A → Prop} {pool : List (D × D)} {k : FuncId} {fn : Func} {c : Code} {args : List V} {Lin : List Box} {res : A → List V} {Lout : A → List Box} {stay : Nat} (hf : P.funcs[k]? = some fn) (hb : fn.body = some c) (hn : fn.ntmps = n) (hlen : args.length ≤ n) (hst : stay ≤ Lin.length)
    (h : ∀ C0 o, CT P C0 → PoolC C0 pool → AC P C0 n c (retRQ fn P C0 o stay R res Lout) (frV args) (inL o stay 0 Lin)) : HCallR P k pool args Lin stay R res Lout := by
  intro w S β xs hT hpool hh ha
  refine calls_of_wp hf hb ?_
  obtain ⟨o, ho, hrel⟩ := hin_rel hn hlen hst hh ha
  have getL : ∀ (j : Nat) (b0 : Box), Lin[j]? = some b0 → (someL Lin)[j]? = some (some b0) := fun j b0 h => someL_mk h
  have hown : ∀ b, S b → ¬ inBk Lin β b := fun b hb ⟨j, bx, c, h1, h2⟩ => hh.own j bx b c (getL j bx h1) h2 hb
  have hP : PoolC ⟨w, inBk Lin β, S⟩ pool := ⟨fun b hb => ⟨hh.fz b hb, hown b hb⟩, hpool⟩
  refine wp_mono (h ⟨w, inBk Lin β, S⟩ o (CT.start hT hown) hP _ w _ S hrel) ?_
  rintro en a w' ⟨hend, q, hq, h1, x, h2, ys, β', S', M, h3, h4, h5, h6, h7, h8, h9, h10, h11⟩
  subst h3
  have fin : a.defers = [] ∧ ∃ v, (results fn a.tmps).run P w' = .ok v w' ∧ ∃ ys q β' S', Ending.returned v = .returned (tupV ys) ∧ R q ∧ All2 (VR0 β' S' w') (res q) ys ∧ HeapR β' S' w' (someL (Lout q)) ∧ (∀ j, j < stay → β' j = β j) ∧
      (∀ b, S b → S' b) ∧ (∀ b, S' b → S b ∨ w.heap.size ≤ b ∨ inBk Lin β b) ∧ Pres (inBk Lin β) w w' :=
    ⟨h1, _, h2, ys, q, β', S', rfl, hq, h4.1, h5, fun j hj => by rw [h6 j hj, ho j (by omega)], h9, h10, h11⟩
  cases en with
  | normal => exact fin
  | ret => exact fin
  | _ => cases hend
theorem retr_ok {A : Type} {R : A → Prop} {C0 : Cx} {fn : Func} {o : Nat → Option (Nat × Nat)} {stay : Nat} {res : A → List V} {vs : List V} {Lout : A → List Box} (q : A) (hq : R q) (src : List Nat) (hx : CExt C0 C) (hrv : RetV P f L fn.results.toList vs) (hln : src.length = (Lout q).length) (hnd : nodupS (src.map some) = true) (hB : BxF L (srcOf (src.map some)) o stay 0 (Lout q)) (hst : stay ≤ (Lout q).length)
    (hv : VxL (srcOf (src.map some)) vs (res q)) : Fin C n (retRQ fn P C0 o stay R res Lout .ret) f L := by
  intro a w' β S hr
  refine ⟨rfl, q, hq, ?_⟩
  obtain ⟨ys, hy, hall⟩ := RetV_run (P := P) hr hrv
  have hrun := results_run (fn := fn) hy
  rw [tupV_eq] at hrun
  obtain ⟨g1, g2, g3, g4, g5, g6⟩ := reth_core hx src hln hnd hB hst hr
  exact ⟨hr.df, _, hrun, ys, _, S, [], rfl, ⟨VxL_VR0 (fun j i e => viewB_some e) hv hall, rfl⟩, g1, g2, g3, by simp, g4, g5, g6⟩
theorem VR0_free {S S' : Nat → Prop} {v : V} {x : Value} (hv : v.free) (h : VR0 β S w v x) : VR0 β S' w v x := by
  rcases h with h | ⟨h1, h2⟩
  · exact .inl h
  · exact .inr ⟨VC_free hv h1, h2⟩
theorem VR0s_free {S S' : Nat → Prop} : ∀ {vs : List V} {xs : List Value}, (∀ v ∈ vs, v.free) → All2 (VR0 β S w) vs xs → All2 (VR0 β S' w) vs xs
  | [], _, _, .nil => .nil
  | _ :: _, _, hv, .cons h1 h2 => .cons (VR0_free (hv _ (by simp)) h1) (VR0s_free (fun v hm => hv v (by simp [hm])) h2)
/-- As AL_hsort, for a call that hands out values over the boxes. -/
theorem AL_hsortR {A : Type} {R : A → Prop} {pool : List (D × D)} (hT : CT P C) {Kb : List Nat} (hK : ∀ b ∈ Kb, ¬ C.Dm b ∧ ¬ C.S0 b ∧ b < C.w0.heap.size) (hP : ∀ p ∈ pool, Cv (· ∈ Kb) C.w0 p.1 p.2) {x : Operand} {args : Array Operand} {ts : Array TypeId} {k : FuncId} {hargs : List V} {Lin : List Box} {res : A → List V} {Lout : A → List Box} {m : Nat} (src : List Nat) (bs : A → List Box) (res' : A → List V)
    (hx : ev f x = .d (.fn k [])) (hc : Callable P k) (hp : HCallR P k pool hargs Lin m R res Lout) (ha : VxL (srcOf (src.map some)) (args.toList.map (ev f)) hargs) (hln : src.length = Lin.length) (hm : m = Lin.length) (hnd : nodupS (src.map some) = true) (hB : BxI L (srcOf (src.map some)) 0 Lin)
    (hlo : ∀ q, R q → Lin.length = (Lout q).length) (hO : ∀ q, R q → BxP (invS src) L src (Lout q) (bs q)) (hfl : ∀ q, R q → ∀ bx ∈ Lout q, ∀ v ∈ bx.es, v.flatv = true) (hfr : ∀ q, R q → ∀ v ∈ res q, v.free) (hres : ∀ q, R q → VxL (invS src) (res q) (res' q)) (hd : dstOk n dst = true)
    (h : ∀ q, R q → AL P C n ops rest Q (updo f dst (retH (res' q))) (putL src (bs q) L)) : AL P C n ops (⟨dst, callV x args ts, ty, pos, after, none⟩ :: rest) Q f L := by
  intro a w β S hr
  refine wpList_plain rfl fun Kc hKc => ?_
  have hv := rel_ev hr x
  rw [hx] at hv
  obtain ⟨cv, c1, c2⟩ := VR_fn hv
  have hcv : cv = [] := by
    have := (DCs_len _ _ _ c2).1
    simpa [Lay.lens] using this
  subst hcv
  unfold Oper.wp
  rw [call_run hc c1, Oper.upon_enter]
  have heq : (args.map a.eval ++ ([] : List Value).toArray) = (args.toList.map a.eval).toArray := by
    show args.map a.eval ++ #[] = _
    rw [Array.append_empty, ← Array.toList_map, Array.toArray_toList]
  rw [heq]
  have hsz := hr.pres.size
  have hnS : ∀ b ∈ Kb, ¬ S b := fun b hb hs => by
    obtain ⟨k1, k2, k3⟩ := hK b hb
    rcases hr.fz b hs with h1 | h1 | h1
    · exact k2 h1
    · omega
    · exact k1 h1
  let C2 : Cx := ⟨C.w0, C.Dm, fun b => C.S0 b ∨ b ∈ Kb⟩
  let S2 : Nat → Prop := fun b => S b ∨ b ∈ Kb
  have lat : Later β S w β S2 w := ⟨fun _ _ h => h, fun _ h => .inl h, fun _ _ => rfl⟩
  have hr2 : Rel C2 n f L a w β S2 := by
    refine ⟨hr.df, hr.sz, fun i => VR_later lat (hr.fr i), ⟨fun i bx hi => BoxR_later lat (fun _ _ _ => rfl) (hr.hp.bx i bx hi), hr.hp.inj, ?_, ?_, hr.hp.un, hr.hp.ad⟩, hr.own, ?_, ?_, hr.pres⟩
    · intro i bx b c hi hb hs
      rcases hs with hs | hs
      · exact hr.hp.own i bx b c hi hb hs
      · obtain ⟨k1, k2, k3⟩ := hK b hs
        rcases hr.own i bx b c hi hb with h1 | h1
        · exact k1 h1
        · omega
    · intro b hb
      rcases hb with hb | hb
      · exact hr.hp.fz b hb
      · have := (hK b hb).2.2; omega
    · intro b hb
      rcases hb with hb | hb
      · rcases hr.fz b hb with h1 | h1 | h1
        · exact .inl (.inl h1)
        · exact .inr (.inl h1)
        · exact .inr (.inr h1)
      · exact .inl (.inr hb)
    · intro b hb
      rcases hb with hb | hb
      · exact .inl (hr.s0 b hb)
      · exact .inr hb
  have hpw : ∀ p ∈ pool, Cv S2 w p.1 p.2 := fun p hp => (hP p hp).later (fun b hb => .inr hb) fun b hb => hr.pres.block b (hK b hb).2.2 (hK b hb).1
  refine (hp w S2 (viewB (srcOf (src.map some)) β) _ (hT.tab hr |>.mono fun _ h => .inl h) hpw (hr2.hp.view hB (srcOf_nodup hnd) (srcOf_un hln)) (args_VR0 hr2 args.toList hargs ha fun j i e => viewB_some e)).mono ?_
  rintro en w' ⟨ys, q, β', S', rfl, hq, g1, g2, g3, g6, g7, g8⟩
  let S3 : Nat → Prop := fun b => S' b ∧ b ∉ Kb
  have g2' : HeapR β' S3 w' (someL (Lout q)) := HeapR_flat (hfl q hq) g2 fun b hb => hb.1
  have hr' := hr.hstay (S' := S3) hB hln hnd (hlo q hq) (hO q hq) g2' (fun j hj => g3 j (by omega)) (fun b hb => ⟨g6 b (.inl hb), fun hk => hnS b hk hb⟩) (fun b hb => by
    rcases g7 b hb.1 with (h1 | h1) | h1 | h1
    · exact .inl h1
    · exact absurd h1 hb.2
    · exact .inr (.inl h1)
    · exact .inr (.inr h1)) g8
  have hbe : ∀ j i, invS src j = some i → β j = β' i := fun j i hji => by
    have hj := invS_some hji
    have hs1 : srcOf (src.map some) i = some j := by
      unfold srcOf
      rw [List.getElem?_map, hj]
      rfl
    rw [g3 i (by have := lt_of_get hj; omega), viewB_some hs1]
  have hvr : All2 (VR0 β S3 w') (res' q) ys := VxL_VR0 hbe (hres q hq) (VR0s_free (hfr q hq) g1)
  exact hKc _ _ (h q hq _ _ _ _ (hr'.puto (dstOk_spec hd) (retH_VR hvr)))
end
end Go.Eng

/- The engine: the rules for a region that draws its order. -/
import Derived.Test.YtjhdkjacfclipaaEng1
set_option linter.unusedVariables false
set_option linter.unusedSimpArgs false
namespace Go.Eng

/-- A rule that looks at its operands alone. -/
def EvA (P : Program) (n : Nat) (o : Oper) (f : Fr) (L : Hp) (v : V) : Prop :=
  ∀ C f', (∀ x ∈ o.op.operands, ev f' x = ev f x) → ∀ L' : Hp, (readsHp o.op = true → L' = L) → Ev P C n o f' L' v
theorem maps_congr {f f2 : Fr} {l : List Operand} (h : ∀ x ∈ l, ev f2 x = ev f x) : l.map (ev f2) = l.map (ev f) := List.map_congr_left h

section
variable {P : Program} {C : Cx} {n : Nat} {f : Fr} {L : Hp} {dst : Option Tmp} {ty : TypeId} {pos : String} {after : Array Edge} {g : Option (Nat × Bool)}
theorem EA_move {x : Operand} : EvA P n ⟨dst, .move x, ty, pos, after, g⟩ f L (ev f x) := fun C_ f2_ hf_ L2_ hL_ => by rw [← hf_ x (by simp [Op.operands])]; exact Ev_move
theorem EA_assign {x : Operand} : EvA P n ⟨dst, .assign x, ty, pos, after, g⟩ f L (ev f x) := fun C_ f2_ hf_ L2_ hL_ => by rw [← hf_ x (by simp [Op.operands])]; exact Ev_assign
theorem EA_pick {c x y : Operand} {b : Bool} (hc : ev f c = bl b) : EvA P n ⟨dst, .pick c x y, ty, pos, after, g⟩ f L (bif b then ev f x else ev f y) := fun C_ f2_ hf_ L2_ hL_ => by
  rw [← hf_ x (by simp [Op.operands]), ← hf_ y (by simp [Op.operands])]
  exact Ev_pick ((hf_ c (by simp [Op.operands])).trans hc)
theorem EA_add {t ty' : TypeId} {x y : Operand} {k : IntKind} {u v : Int} (hx : ev f x = .d (.c (.int k u))) (hy : ev f y = .d (.c (.int k v))) (z : Int) (hz : k.wrap (u + v) = z) : EvA P n ⟨dst, .binOp .add t x y ty', ty, pos, after, g⟩ f L (.d (.c (.int k z))) := fun C_ f2_ hf_ L2_ hL_ => Ev_add ((hf_ x (by simp [Op.operands, Call.operands])).trans hx) ((hf_ y (by simp [Op.operands, Call.operands])).trans hy) z hz
theorem EA_sub {t ty' : TypeId} {x y : Operand} {k : IntKind} {u v : Int} (hx : ev f x = .d (.c (.int k u))) (hy : ev f y = .d (.c (.int k v))) (z : Int) (hz : k.wrap (u - v) = z) : EvA P n ⟨dst, .binOp .sub t x y ty', ty, pos, after, g⟩ f L (.d (.c (.int k z))) := fun C_ f2_ hf_ L2_ hL_ => Ev_sub ((hf_ x (by simp [Op.operands, Call.operands])).trans hx) ((hf_ y (by simp [Op.operands, Call.operands])).trans hy) z hz
theorem EA_shr {t ty' : TypeId} {x y : Operand} {k k' : IntKind} {u v : Int} (hx : ev f x = .d (.c (.int k u))) (hy : ev f y = .d (.c (.int k' v))) (h0 : ¬ v < 0) : EvA P n ⟨dst, .binOp .shr t x y ty', ty, pos, after, g⟩ f L (.d (.c (.int k (u.fdiv (2 ^ (min v.toNat k.bits)))))) := fun C_ f2_ hf_ L2_ hL_ => Ev_shr ((hf_ x (by simp [Op.operands, Call.operands])).trans hx) ((hf_ y (by simp [Op.operands, Call.operands])).trans hy) h0
theorem EA_and {t ty' : TypeId} {x y : Operand} {k : IntKind} {u v : Int} (hx : ev f x = .d (.c (.int k u))) (hy : ev f y = .d (.c (.int k v))) : EvA P n ⟨dst, .binOp .and t x y ty', ty, pos, after, g⟩ f L (.d (.c (.int k (k.wrap (BitVec.ofInt k.bits u &&& BitVec.ofInt k.bits v).toNat)))) := fun C_ f2_ hf_ L2_ hL_ => Ev_and ((hf_ x (by simp [Op.operands, Call.operands])).trans hx) ((hf_ y (by simp [Op.operands, Call.operands])).trans hy)
theorem EA_xor {t ty' : TypeId} {x y : Operand} {k : IntKind} {u v : Int} (hx : ev f x = .d (.c (.int k u))) (hy : ev f y = .d (.c (.int k v))) : EvA P n ⟨dst, .binOp .xor t x y ty', ty, pos, after, g⟩ f L (.d (.c (.int k (k.wrap (BitVec.ofInt k.bits u ^^^ BitVec.ofInt k.bits v).toNat)))) := fun C_ f2_ hf_ L2_ hL_ => Ev_xor ((hf_ x (by simp [Op.operands, Call.operands])).trans hx) ((hf_ y (by simp [Op.operands, Call.operands])).trans hy)
theorem EA_eql {t ty' : TypeId} {x y : Operand} {k : IntKind} {u v : Int} (hx : ev f x = .d (.c (.int k u))) (hy : ev f y = .d (.c (.int k v))) : EvA P n ⟨dst, .binOp .eql t x y ty', ty, pos, after, g⟩ f L (bl (decide (u = v))) := fun C_ f2_ hf_ L2_ hL_ => Ev_eql ((hf_ x (by simp [Op.operands, Call.operands])).trans hx) ((hf_ y (by simp [Op.operands, Call.operands])).trans hy)
theorem EA_lss {t ty' : TypeId} {x y : Operand} {k : IntKind} {u v : Int} (hx : ev f x = .d (.c (.int k u))) (hy : ev f y = .d (.c (.int k v))) : EvA P n ⟨dst, .binOp .lss t x y ty', ty, pos, after, g⟩ f L (bl (decide (u < v))) := fun C_ f2_ hf_ L2_ hL_ => Ev_lss ((hf_ x (by simp [Op.operands, Call.operands])).trans hx) ((hf_ y (by simp [Op.operands, Call.operands])).trans hy)
theorem EA_gtr {t ty' : TypeId} {x y : Operand} {k : IntKind} {u v : Int} (hx : ev f x = .d (.c (.int k u))) (hy : ev f y = .d (.c (.int k v))) : EvA P n ⟨dst, .binOp .gtr t x y ty', ty, pos, after, g⟩ f L (bl (decide (v < u))) := fun C_ f2_ hf_ L2_ hL_ => Ev_gtr ((hf_ x (by simp [Op.operands, Call.operands])).trans hx) ((hf_ y (by simp [Op.operands, Call.operands])).trans hy)
theorem EA_not {t : TypeId} {x : Operand} {b : Bool} (hx : ev f x = bl b) : EvA P n ⟨dst, .unOp .not t x, ty, pos, after, g⟩ f L (bl (!b)) := fun C_ f2_ hf_ L2_ hL_ => Ev_not ((hf_ x (by simp [Op.operands, Call.operands])).trans hx)
theorem EA_conv_int {s d : TypeId} {x : Operand} {k k' : IntKind} {u : Int} (hs : (P.underlying s).isSome = true) (hd : tyInt P d = some k') (hx : ev f x = .d (.c (.int k u))) (z : Int) (hz : k'.wrap u = z) : EvA P n ⟨dst, .convert s d x, ty, pos, after, g⟩ f L (.d (.c (.int k' z))) := fun C_ f2_ hf_ L2_ hL_ => Ev_conv_int hs hd ((hf_ x (by simp [Op.operands, Call.operands])).trans hx) z hz
theorem EA_len_sl {t e : TypeId} {x : Operand} {l : Lay} {xs : List D} (ht : tyElem P t = some e) (hx : ev f x = .d (.sl l xs)) : EvA P n ⟨dst, callB .len #[x] #[t], ty, pos, after, g⟩ f L (i64 xs.length) := fun C_ f2_ hf_ L2_ hL_ => Ev_len_sl ht ((hf_ x (by simp [Op.operands, Call.operands])).trans hx)
theorem EA_len_ref {t e : TypeId} {x : Operand} {l : Lay} {i off m : Nat} (ht : tyElem P t = some e) (hx : ev f x = .ref l i off m) : EvA P n ⟨dst, callB .len #[x] #[t], ty, pos, after, g⟩ f L (i64 m) := fun C_ f2_ hf_ L2_ hL_ => Ev_len_ref ht ((hf_ x (by simp [Op.operands, Call.operands])).trans hx)
theorem EA_len_nil {t e : TypeId} {x : Operand} (ht : tyElem P t = some e) (hx : ev f x = nilsl) : EvA P n ⟨dst, callB .len #[x] #[t], ty, pos, after, g⟩ f L (i64 0) := fun C_ f2_ hf_ L2_ hL_ => Ev_len_nil ht ((hf_ x (by simp [Op.operands, Call.operands])).trans hx)
theorem EA_load_ptr {t : TypeId} {x : Operand} {l l' l'' : Lay} {i k o : Nat} {p : List Nat} {bx : Box} {e y : V} (hx : ev f x = .ptr l i k p) (hL : L[i]? = some (some bx)) (hbl : bx.l = l) (he : bx.es[k]? = some e)
    (hp : e.at? l p = some (o, l', y)) (hq : l.at? p = some (o, l'')) (hs : tySize P t = some l'.len) {ag : Bool} (ha : tyAgg P t = some ag) (hag : y.isAgg = ag) (h1 : ag = false → l'.len = 1) : EvA P n ⟨dst, .load t x, ty, pos, after, g⟩ f L y := fun C_ f2_ hf_ L2_ hL_ => Ev_load_ptr ((hf_ x (by simp [Op.operands, Call.operands])).trans hx) (by rw [hL_ rfl]; exact hL) hbl he hp hq hs ha hag h1
theorem EA_load_rp {t : TypeId} {x : Operand} {l l' l'' : Lay} {o : Nat} {p : List Nat} {e y : D} (hx : ev f x = .d (.rp l e p))
    (hp : e.at? l p = some (o, l', y)) (hq : l.at? p = some (o, l'')) (hs : tySize P t = some l'.len) {ag : Bool} (ha : tyAgg P t = some ag) (hag : y.isAgg = ag) (h1 : ag = false → l'.len = 1) : EvA P n ⟨dst, .load t x, ty, pos, after, g⟩ f L (.d y) := fun C_ f2_ hf_ L2_ hL_ => Ev_load_rp ((hf_ x (by simp [Op.operands, Call.operands])).trans hx) hp hq hs ha hag h1
theorem EA_fa_ptr {s : TypeId} {x : Operand} {l l1 l2 : Lay} {i k j o0 o : Nat} {p : List Nat} (hx : ev f x = .ptr l i k p) (hf : tyField P s j = some (o, true)) (h1 : l.at? p = some (o0, l1)) (h2 : l.at? (p ++ [j]) = some (o0 + o, l2)) : EvA P n ⟨dst, .fieldAddr s x j, ty, pos, after, g⟩ f L (.ptr l i k (p ++ [j])) := fun C_ f2_ hf_ L2_ hL_ => Ev_fa_ptr ((hf_ x (by simp [Op.operands, Call.operands])).trans hx) hf h1 h2
theorem EA_fa_rp {s : TypeId} {x : Operand} {l l1 l2 : Lay} {j o0 o : Nat} {p : List Nat} {e : D} (hx : ev f x = .d (.rp l e p)) (hf : tyField P s j = some (o, true)) (h1 : l.at? p = some (o0, l1)) (h2 : l.at? (p ++ [j]) = some (o0 + o, l2)) : EvA P n ⟨dst, .fieldAddr s x j, ty, pos, after, g⟩ f L (.d (.rp l e (p ++ [j]))) := fun C_ f2_ hf_ L2_ hL_ => Ev_fa_rp ((hf_ x (by simp [Op.operands, Call.operands])).trans hx) hf h1 h2
theorem EA_nilc_ptr {x : Operand} {l : Lay} {i k : Nat} {p : List Nat} (hx : ev f x = .ptr l i k p) : EvA P n ⟨dst, .nilCheck x, ty, pos, after, g⟩ f L (.ptr l i k p) := fun C_ f2_ hf_ L2_ hL_ => Ev_nilc_ptr ((hf_ x (by simp [Op.operands, Call.operands])).trans hx)
theorem EA_nilc_rp {x : Operand} {l : Lay} {e : D} {p : List Nat} (hx : ev f x = .d (.rp l e p)) : EvA P n ⟨dst, .nilCheck x, ty, pos, after, g⟩ f L (.d (.rp l e p)) := fun C_ f2_ hf_ L2_ hL_ => Ev_nilc_rp ((hf_ x (by simp [Op.operands, Call.operands])).trans hx)
theorem EA_ix_sl {t e : TypeId} {x y : Operand} {k : IntKind} {j : Int} {l : Lay} {xs : List D} {z : D} (hx : ev f x = .d (.sl l xs)) (hy : ev f y = .d (.c (.int k j))) (ht : tyElem P t = some e) (hs : tySize P e = some l.len) (h0 : 0 ≤ j) (hz : xs[j.toNat]? = some z) : EvA P n ⟨dst, .indexAddr t x y, ty, pos, after, g⟩ f L (.d (.rp l z [])) := fun C_ f2_ hf_ L2_ hL_ => Ev_ix_sl ((hf_ x (by simp [Op.operands, Call.operands])).trans hx) ((hf_ y (by simp [Op.operands, Call.operands])).trans hy) ht hs h0 hz
theorem EA_ix_ref {t e : TypeId} {x y : Operand} {k : IntKind} {j : Int} {l : Lay} {i off m : Nat} (hx : ev f x = .ref l i off m) (hy : ev f y = .d (.c (.int k j))) (ht : tyElem P t = some e) (hs : tySize P e = some l.len) (h0 : 0 ≤ j) (h1 : j < m) : EvA P n ⟨dst, .indexAddr t x y, ty, pos, after, g⟩ f L (.ptr l i (off + j.toNat) []) := fun C_ f2_ hf_ L2_ hL_ => Ev_ix_ref ((hf_ x (by simp [Op.operands, Call.operands])).trans hx) ((hf_ y (by simp [Op.operands, Call.operands])).trans hy) ht hs h0 h1
end

section
variable {P : Program} {C : Cx} {n : Nat} {ops : Array Oper} {Q : AQ} {f : Fr} {L : Hp} {dst : Option Tmp} {op : Op} {ty : TypeId} {pos : String} {after : Array Edge} {i : Nat} {r : List Nat} {v : V}

theorem ev_looks {f' : Fr} {o : Oper} (h : ∀ s ∈ o.looksAt ops, f' s = f s) : ∀ x ∈ o.op.operands, ev f' x = ev f x := by
  intro x hx
  cases x with
  | tmp t =>
    refine h t ?_
    unfold Oper.looksAt
    refine List.mem_append_left _ (List.mem_filterMap.2 ⟨.tmp t, by simpa using hx, rfl⟩)
  | _ => rfl

theorem runOr_none {o : Oper} (hg : o.guard = none) {a : Act} {w : World} {K : Act → World → Prop} {Qc : Exit → Act → World → Prop} (h : o.wp P a w K Qc) : runOr P ops o a w K Qc := by
  unfold runOr
  rw [if_pos (by simp [Region.wanted, hg])]
  exact h

theorem wanted_iff {o : Oper} {j s : Nat} {want b : Bool} {a : Act} {w : World} {β : Beta} {S : Nat → Prop} {f' : Fr} {L' : Hp} (hg : o.guard = some (j, want)) (hj : (ops[j]?).bind (·.dst) = some s) (hs : Nat.blt s n = true) (hr : Rel C n f' L' a w β S) (hv : f' s = bl b) :
    Region.wanted o (yielded ops a.tmps) = (b == want) := by
  have hsn : s < a.tmps.size := by rw [hr.sz]; simpa [Nat.blt_eq] using hs
  have h1 := hr.fr s
  rw [hv] at h1
  have h1 := (VR_c.1 h1).1
  have h2 : a.tmps[s]? = some (.bool b) := by
    rw [Array.getD_eq_getD_getElem?] at h1
    rw [Array.getElem?_eq_getElem hsn] at h1 ⊢
    simpa using h1
  cases b <;> cases want <;> simp [Region.wanted, hg, yielded, hj, h2]

theorem looks_guard {o : Oper} {j s : Nat} {want : Bool} (hg : o.guard = some (j, want)) (hj : (ops[j]?).bind (·.dst) = some s) : s ∈ o.looksAt ops := by
  unfold Oper.looksAt
  refine List.mem_append_right _ ?_
  rw [hg]
  simp only [hj]
  simp

/-- A step that is passed by. -/
theorem DT_f {j s : Nat} {want : Bool} (ho : ops[i]? = some ⟨dst, op, ty, pos, after, some (j, want)⟩) (hj : (ops[j]?).bind (·.dst) = some s) (hs : Nat.blt s n = true) (hv : f s = bl (!want)) (hd : dstOk n dst = true) (h : DT P n ops C Q r (updo f dst (.tup [])) L) : DT P n ops C Q (i :: r) f L := by
  refine .a ho ?_ h
  intro C hT f' hf L' _ a w β S hr K Qc hK
  have hw := wanted_iff (ops := ops) (o := ⟨dst, op, ty, pos, after, some (j, want)⟩) rfl hj hs hr ((hf s (looks_guard rfl hj)).trans hv)
  unfold runOr
  rw [if_neg (by rw [hw]; cases want <;> simp)]
  exact hK _ _ _ _ (hr.puto (dstOk_spec hd) ⟨[], rfl, .nil⟩)

/-- A step that runs under its guard. -/
theorem DT_t {j s : Nat} {want : Bool} {L2 : Hp} (ho : ops[i]? = some ⟨dst, op, ty, pos, after, some (j, want)⟩) (hj : (ops[j]?).bind (·.dst) = some s) (hs : Nat.blt s n = true) (hv : f s = bl want)
    (hst : StA P n ops ⟨dst, op, ty, pos, after, none⟩ f L v) (h : DT P n ops C Q r (updo f dst v) L) : DT P n ops C Q (i :: r) f L := by
  refine .a ho ?_ h
  intro C hT f' hf L' hL a w β S hr K Qc hK
  have hw := wanted_iff (ops := ops) (o := ⟨dst, op, ty, pos, after, some (j, want)⟩) rfl hj hs hr ((hf s (looks_guard rfl hj)).trans hv)
  have hf2 : ∀ s ∈ (⟨dst, op, ty, pos, after, none⟩ : Oper).looksAt ops, f' s = f s := fun s hs => hf s (by
    unfold Oper.looksAt at hs ⊢
    simp only [List.append_nil] at hs
    exact List.mem_append_left _ hs)
  have := hst C hT f' hf2 L' hL a w β S hr K Qc hK
  unfold runOr at this ⊢
  rw [if_pos (by rw [hw]; simp)]
  rw [if_pos (by simp [Region.wanted])] at this
  exact this

theorem StA_ev (he : EvA P n ⟨dst, op, ty, pos, after, none⟩ f L v) (hd : dstOk n dst = true) : StA P n ops ⟨dst, op, ty, pos, after, none⟩ f L v := by
  intro C hT f' hf L' hL a w β S hr K Qc hK
  refine runOr_none rfl ?_
  obtain ⟨x, hx, hv⟩ := he C f' (ev_looks hf) L' hL a w β S hr
  unfold Oper.wp
  rw [hx, Oper.upon_value]
  exact hK _ _ _ _ (hr.puto (dstOk_spec hd) hv)

theorem DT_ev (ho : ops[i]? = some ⟨dst, op, ty, pos, after, none⟩) (he : EvA P n ⟨dst, op, ty, pos, after, none⟩ f L v) (hd : dstOk n dst = true) (h : DT P n ops C Q r (updo f dst v) L) : DT P n ops C Q (i :: r) f L :=
  .a ho (StA_ev he hd) h
theorem DT_evt {j s : Nat} {want : Bool} (ho : ops[i]? = some ⟨dst, op, ty, pos, after, some (j, want)⟩) (hj : (ops[j]?).bind (·.dst) = some s) (hs : Nat.blt s n = true) (hv : f s = bl want) (he : EvA P n ⟨dst, op, ty, pos, after, none⟩ f L v) (hd : dstOk n dst = true) (h : DT P n ops C Q r (updo f dst v) L) : DT P n ops C Q (i :: r) f L :=
  DT_t (L2 := L) ho hj hs hv (StA_ev he hd) h

theorem StA_fcall {x : Operand} {args : Array Operand} {ts : Array TypeId} {k : FuncId} {ds caps rs : List D} (hx : ev f x = .d (.fn k caps)) (hcaps : caps.all (fun d => !d.isAgg) = true) (hc : Callable P k) (hp : PCall P k (ds ++ caps) (· = rs)) (ha : args.toList.map (ev f) = ds.map V.d)
    (hd : dstOk n dst = true) : StA P n ops ⟨dst, callV x args ts, ty, pos, after, none⟩ f L (retV rs) := by
  intro C hT f' hf L' hL a w β S hr K Qc hK
  have hev := ev_looks hf
  refine runOr_none rfl ?_
  have hx' : ev f' x = .d (.fn k caps) := (hev x (by simp [Op.operands, Call.operands])).trans hx
  have ha' : args.toList.map (ev f') = ds.map V.d := by
    rw [maps_congr fun y hy => hev y (by simp [Op.operands, Call.operands]; exact .inr (by simpa using hy))]
    exact ha
  have hv := rel_ev hr x
  rw [hx'] at hv
  obtain ⟨xs, h1, h2⟩ := VR_fn hv
  unfold Oper.wp
  rw [call_run hc h1, Oper.upon_enter]
  have hall := (args_RD hr args.toList ds ha').append (caps_RD caps xs hcaps h2)
  have heq : (args.map a.eval ++ xs.toArray) = (args.toList.map a.eval ++ xs).toArray := by simp
  rw [heq]
  refine (hp w S _ hr.hp.fz (hT.tab hr) hall).mono ?_
  rintro e w' ⟨y, rs', S', rfl, q1, q2, q3, q4, q5⟩
  subst q1
  exact hK _ _ _ _ ((hr.called q5 q3 q4).puto (dstOk_spec hd) (VR_retV q2))
theorem DT_fcall0 {x : Operand} {args : Array Operand} {ts : Array TypeId} {k : FuncId} {ds rs : List D} (ho : ops[i]? = some ⟨dst, callV x args ts, ty, pos, after, none⟩) (hx : ev f x = .d (.fn k [])) (hc : Callable P k) (hp : PCall P k ds (· = rs)) (ha : args.toList.map (ev f) = ds.map V.d)
    (hd : dstOk n dst = true) (h : DT P n ops C Q r (updo f dst (retV rs)) L) : DT P n ops C Q (i :: r) f L :=
  .a ho (StA_fcall hx rfl hc (by rw [List.append_nil]; exact hp) ha hd) h
theorem DT_fcall0t {x : Operand} {args : Array Operand} {ts : Array TypeId} {k : FuncId} {ds rs : List D} {j s : Nat} {want : Bool} (ho : ops[i]? = some ⟨dst, callV x args ts, ty, pos, after, some (j, want)⟩) (hj : (ops[j]?).bind (·.dst) = some s) (hs : Nat.blt s n = true) (hv : f s = bl want) (hx : ev f x = .d (.fn k [])) (hc : Callable P k) (hp : PCall P k ds (· = rs)) (ha : args.toList.map (ev f) = ds.map V.d)
    (hd : dstOk n dst = true) (h : DT P n ops C Q r (updo f dst (retV rs)) L) : DT P n ops C Q (i :: r) f L :=
  DT_t (L2 := L) ho hj hs hv (StA_fcall hx rfl hc (by rw [List.append_nil]; exact hp) ha hd) h

/-- A Bool of a slot, one way or the other. -/
theorem DT_bool (s : Nat) {b : Bool} (hs : f s = bl b) (ht : b = true → DT P n ops C Q r (upd f s (bl true)) L) (hf : b = false → DT P n ops C Q r (upd f s (bl false)) L) : DT P n ops C Q r f L := by
  cases b with
  | true => have := ht rfl; rwa [upd_same hs] at this
  | false => have := hf rfl; rwa [upd_same hs] at this
end
end Go.Eng

/- The engine: slices written out that are read alone; append and store in a region that draws its order. -/
set_option linter.unusedVariables false
set_option linter.unusedSimpArgs false
namespace Go.Eng

section
variable {P : Program} {C : Cx} {n : Nat} {ops : Array Oper} {Q : AQ} {f : Fr} {L : Hp} {rest : List Oper} {dst : Option Tmp} {ty : TypeId} {pos : String} {after : Array Edge} {i : Nat} {r : List Nat}

/-- A new block that is read alone. -/
theorem Rel.newRead {a : Act} {w : World} {β : Beta} {S : Nat → Prop} (h : Rel C n f L a w β S) (cur : Array Value) (e : TypeId) : Rel C n f L a (w.alloc (.cells cur e)) β (fun b => S b ∨ b = w.heap.size) := by
  have old : ∀ b, b < w.heap.size → (w.alloc (.cells cur e)).heap[b]? = w.heap[b]? := fun b hb => by
    show (w.heap.push _)[b]? = _
    rw [Array.getElem?_push, if_neg (by omega)]
  have lat : Later β S w β (fun b => S b ∨ b = w.heap.size) (w.alloc (.cells cur e)) := ⟨fun _ _ h => h, fun _ h => .inl h, fun b hb => old b (h.hp.fz b hb)⟩
  refine h.later lat ⟨fun i b hi => BoxR_later lat (fun b' c hb => old b' ((h.hp.bx i b hi).lt hb)) (h.hp.bx i b hi), h.hp.inj, ?_, ?_, h.hp.un, h.hp.ad⟩ h.own ?_ ?_
  · rintro i bx b c hi hb (hs | hs)
    · exact h.hp.own i bx b c hi hb hs
    · have := (h.hp.bx i bx hi).lt hb
      omega
  · rintro b (hs | hs)
    · have := h.hp.fz b hs
      simp
      omega
    · simp [hs]
  · rintro b (hs | hs)
    · exact h.fz b hs
    · have := h.pres.size
      exact .inr (.inl (by omega))
  · exact ⟨h.pres.os, h.pres.tape, h.pres.output, by have := h.pres.size; simp; omega, fun b hb hd => (old b (by have := h.pres.size; omega)).trans (h.pres.block b hb hd)⟩

theorem flat_RD {S : Nat → Prop} {w : World} {l : Lay} : ∀ {ds : List D} {xs : List Value}, All2 (RD S w) ds xs → (∀ d ∈ ds, d.len? = l.len) → DCs S w (List.replicate ds.length l) ds (xs.map (·.cells.toList)).flatten
  | _, _, .nil, _ => by simp [DCs]
  | _, _, .cons h1 h2, hl => by
    simp only [List.length_cons, List.replicate_succ, List.map_cons, List.flatten_cons, DCs]
    exact ⟨_, _, _, _, rfl, rfl, by rw [DC_len h1.1]; exact hl _ (by simp), h1.1, flat_RD h2 fun d hd => hl d (by simp [hd])⟩

theorem parts_RD {a : Act} {w : World} {β : Beta} {S : Nat → Prop} (hr : Rel C n f L a w β S) : ∀ (ps : List (Nat × Operand)) (i : Nat) (ds : List D), ps.map (fun q => (q.1, ev f q.2)) = numb i (ds.map V.d) → ∃ xs, ps.map (fun q => (q.1, a.eval q.2)) = numb i xs ∧ All2 (RD S w) ds xs ∧ xs.length = ds.length
  | [], i, ds, h => by
    cases ds with
    | nil => exact ⟨[], rfl, .nil, rfl⟩
    | cons v r => simp [numb] at h
  | q :: ps, i, ds, h => by
    cases ds with
    | nil => simp [numb] at h
    | cons d ds =>
      simp only [List.map_cons, numb, List.cons.injEq, Prod.mk.injEq] at h
      obtain ⟨⟨h1, h2⟩, h3⟩ := h
      obtain ⟨xs, e1, e2, e3⟩ := parts_RD hr ps (i + 1) ds h3
      refine ⟨a.eval q.2 :: xs, by simp [numb, e1, h1], .cons ?_ e2, by simp [e3]⟩
      have := rel_ev hr q.2
      rw [h2] at this
      exact RD_of_VR0 this

def lenDs (k : Nat) : List D → Bool
  | [] => true
  | d :: r => Nat.beq d.len? k && lenDs k r
theorem lenDs_spec {k : Nat} : ∀ {ds : List D}, lenDs k ds = true → ∀ d ∈ ds, d.len? = k
  | [], _, d, hd => by cases hd
  | d :: r, h, x, hx => by
    simp only [lenDs, Bool.and_eq_true] at h
    rcases List.mem_cons.1 hx with rfl | hx
    · exact Nat.eq_of_beq_eq_true h.1
    · exact lenDs_spec h.2 x hx

theorem St_buildD {t e : TypeId} {len : Nat} {parts : Array (Nat × Operand)} {z : Value} (l : Lay) {ds : List D} (ht : tyElem P t = some e) (hs : tySize P e = some l.len) (hz : tyZero P e = some (some z)) (hp : parts.toList.map (fun q => (q.1, ev f q.2)) = numb 0 (ds.map V.d))
    (hlen : ds.length = len) (hsmall : len * l.len ≤ 16777216) (hpos : 0 < l.len) (hg : lenDs l.len ds = true) (hd : dstOk n dst = true) :
    StQ P C n ⟨dst, .buildSlice t len parts, ty, pos, after, none⟩ f L (fun f' L' => f' = updo f dst (.d (.sl l ds)) ∧ L' = L) := by
  subst hlen
  intro a w β S hr K Qc hK
  obtain ⟨xs, e1, e2, e3⟩ := parts_RD hr parts.toList 0 ds hp
  have hxs : ∀ x ∈ xs, x.cells.size = l.len := by
    have key : ∀ (ds : List D) (xs : List Value), All2 (RD S w) ds xs → (∀ d ∈ ds, d.len? = l.len) → ∀ x ∈ xs, x.cells.size = l.len := by
      intro ds xs h
      induction h with
      | nil => simp
      | cons h1 _ ih =>
        intro hl x hx
        rcases List.mem_cons.1 hx with rfl | hx
        · have := DC_len h1.1
          rw [hl _ (by simp)] at this
          simpa using this
        · exact ih (fun d hd => hl d (by simp [hd])) x hx
    exact key ds xs e2 (lenDs_spec hg)
  have hpl : (parts.map fun q => (q.1, a.eval q.2)).toList = numb 0 xs := by rw [Array.toList_map]; exact e1
  have hflat := flat_RD (l := l) e2 (lenDs_spec hg)
  have hfl : ((xs.map (·.cells.toList)).flatten).length = ds.length * l.len := by
    have := (DCs_len _ _ _ hflat).1
    rwa [lens_replicate] at this
  have hcells : ∀ zc : Array Value, Instr.fill (fun i => some (i * l.len, l.len)) ((Array.range (ds.length * l.len)).map (zc[· % zc.size]!)) (numb 0 xs) = some ((xs.map (·.cells.toList)).flatten).toArray := by
    intro zc
    rw [fill_seq l.len xs 0 _ hxs (by simp [e3])]
    simp
  have hrun : (execOp a.eval ⟨dst, .buildSlice t ds.length parts, ty, pos, after, none⟩).run P w = .ok (.value (.slice (some ⟨w.heap.size, 0, none⟩) ds.length ds.length)) (w.alloc (.cells ((xs.map (·.cells.toList)).flatten).toArray e)) := by
    have hns : ¬ (ds.length * l.len > 2 ^ 24) := by omega
    simp only [execOp, Instr.buildSlice, Sem.run_bind, run_underlying (elem_some ht), Result.andThen, run_sizeOf' hs, if_neg hns]
    by_cases h0 : ds.length * l.len = 0
    · simp only [if_pos h0, Sem.run_bind, Sem.run_pure, Result.andThen, hpl]
      rw [hcells]
      simp [run_newRow, Result.andThen]
    · simp only [if_neg h0, Sem.run_bind, zeroValue_run hz, Sem.run_pure, Result.andThen, hpl]
      rw [hcells]
      simp [run_newRow, Result.andThen]
  unfold Oper.wp
  rw [hrun, Oper.upon_value]
  have hlv : ds.length ≤ 16777216 := Nat.le_trans (Nat.le_mul_of_pos_right _ hpos) hsmall
  have hr' := hr.newRead ((xs.map (·.cells.toList)).flatten).toArray e
  have old : ∀ b, S b → (w.alloc (.cells ((xs.map (·.cells.toList)).flatten).toArray e)).heap[b]? = w.heap[b]? := fun b hb => by
    have := hr.hp.fz b hb
    show (w.heap.push _)[b]? = _
    rw [Array.getElem?_push, if_neg (by omega)]
  refine hK _ _ _ _ _ _ (hr'.puto (dstOk_spec hd) (VR_sl_mk (Nat.le_refl _) (by simp only [lim]; omega) (.inr ⟨w.heap.size, 0, _, rfl, .inr rfl, DCs_later (fun _ h => .inl h) old _ _ _ hflat, fun j x hx => ?_⟩))) ⟨rfl, rfl⟩
  have : (w.alloc (.cells ((xs.map (·.cells.toList)).flatten).toArray e)).heap[w.heap.size]? = some (.cells ((xs.map (·.cells.toList)).flatten).toArray e) := by
    show (w.heap.push _)[w.heap.size]? = _
    simp
  unfold World.cell?
  simp only
  rw [this]
  simpa using hx

theorem AL_buildD {t e : TypeId} {len : Nat} {parts : Array (Nat × Operand)} {z : Value} (l : Lay) {ds : List D} (ht : tyElem P t = some e) (hs : tySize P e = some l.len) (hz : tyZero P e = some (some z)) (hp : parts.toList.map (fun q => (q.1, ev f q.2)) = numb 0 (ds.map V.d))
    (hlen : ds.length = len) (hsmall : len * l.len ≤ 16777216) (hpos : 0 < l.len) (hg : lenDs l.len ds = true) (hd : dstOk n dst = true)
    (h : AL P C n ops rest Q (updo f dst (.d (.sl l ds))) L) : AL P C n ops (⟨dst, .buildSlice t len parts, ty, pos, after, none⟩ :: rest) Q f L :=
  AL_stepQ rfl (St_buildD l ht hs hz hp hlen hsmall hpos hg hd) (fun f' L' ⟨h1, h2⟩ => by subst h1; subst h2; exact h)

theorem parts_congr {f f2 : Fr} {ps : List (Nat × Operand)} (h : ∀ q ∈ ps, ev f2 q.2 = ev f q.2) : ps.map (fun q => (q.1, ev f2 q.2)) = ps.map (fun q => (q.1, ev f q.2)) := List.map_congr_left fun q hq => by rw [h q hq]

theorem StA_of {o : Oper} (hg : o.guard = none) (hnr : readsHp o.op = false) {v : V} (h : ∀ C f' L', (∀ x ∈ o.op.operands, ev f' x = ev f x) → StQ P C n o f' L' (fun f'' L'' => f'' = updo f' o.dst v ∧ L'' = L')) : StA P n ops o f L v := by
  intro C _ f' hf L' _ a w β S hr K Qc hK
  exact runOr_none hg (h C f' L' (ev_looks hf) a w β S hr K Qc fun a' w' β' S' f'' L'' hr' ⟨e1, e2⟩ => by subst e1; subst e2; exact hK _ _ _ _ hr')
theorem StB_of {o : Oper} (hg : o.guard = none) {v : V} {L2 : Hp} (h : ∀ C f', (∀ x ∈ o.op.operands, ev f' x = ev f x) → StQ P C n o f' L (fun f'' L'' => f'' = updo f' o.dst v ∧ L'' = L2)) : StB P n ops o f L v L2 := by
  intro C _ f' hf a w β S hr K Qc hK
  exact runOr_none hg (h C f' (ev_looks hf) a w β S hr K Qc fun a' w' β' S' f'' L'' hr' ⟨e1, e2⟩ => by subst e1; subst e2; exact hK _ _ _ _ hr')

theorem DT_buildD {t e : TypeId} {len : Nat} {parts : Array (Nat × Operand)} {z : Value} (l : Lay) {ds : List D} (ho : ops[i]? = some ⟨dst, .buildSlice t len parts, ty, pos, after, none⟩) (ht : tyElem P t = some e) (hs : tySize P e = some l.len) (hz : tyZero P e = some (some z)) (hp : parts.toList.map (fun q => (q.1, ev f q.2)) = numb 0 (ds.map V.d))
    (hlen : ds.length = len) (hsmall : len * l.len ≤ 16777216) (hpos : 0 < l.len) (hg : lenDs l.len ds = true) (hd : dstOk n dst = true)
    (h : DT P n ops C Q r (updo f dst (.d (.sl l ds))) L) : DT P n ops C Q (i :: r) f L :=
  .a ho (StA_of rfl rfl fun C f' L' hf => St_buildD l ht hs hz (by
    rw [parts_congr (fun q hq => hf q.2 (by
      simp only [Op.operands]
      simp only [List.mem_toArray, List.mem_map]
      exact ⟨q, hq, rfl⟩))]
    exact hp) hlen hsmall hpos hg hd) h

theorem DT_append_sl {t e : TypeId} {x y : Operand} {l : Lay} {j m bytes : Nat} {bx : Box} {xs : List D} {z : Value} (ho : ops[i]? = some ⟨dst, callB .append #[x, y] #[t, t], ty, pos, after, none⟩) (hx : ev f x = .ref l j 0 m) (hy : ev f y = .d (.sl l xs)) (hL : L[j]? = some (some bx)) (hl : bx.l = l) (ht : tyElem P t = some e) (hs : tySize P e = some l.len) (hz : tyZero P e = some (some z)) (hzl : z.cells.size = l.len) (hb : tyBytes P e = some bytes) (hb128 : bytes ≤ 128)
    (hpos : 0 < l.len) (he : bx.ty = e) (hm : bx.es.length = m) (hlim : m + xs.length ≤ lim) (q : Nat) (hq : L.length = q) (hd : dstOk n dst = true)
    (h : DT P n ops C Q r (updo f dst (.ref l q 0 (m + (xs.map V.d).length))) (L.set j none ++ [some ⟨e, l, bx.es ++ xs.map V.d⟩])) : DT P n ops C Q (i :: r) f L :=
  .b ho rfl (StB_of rfl fun C f' hf => St_append ((hf x (by simp [Op.operands, Call.operands])).trans hx) hL hl ht hs hz hzl hb hb128 hpos he hm (Src_sl ((hf y (by simp [Op.operands, Call.operands])).trans hy)) (by simpa using hlim) q hq hd) h
theorem DT_append_nil {t e : TypeId} {x y : Operand} {l : Lay} {j m bytes : Nat} {bx : Box} {z : Value} (ho : ops[i]? = some ⟨dst, callB .append #[x, y] #[t, t], ty, pos, after, none⟩) (hx : ev f x = .ref l j 0 m) (hy : ev f y = nilsl) (hL : L[j]? = some (some bx)) (hl : bx.l = l) (ht : tyElem P t = some e) (hs : tySize P e = some l.len) (hz : tyZero P e = some (some z)) (hzl : z.cells.size = l.len) (hb : tyBytes P e = some bytes) (hb128 : bytes ≤ 128)
    (hpos : 0 < l.len) (he : bx.ty = e) (hm : bx.es.length = m) (hlim : m ≤ lim) (q : Nat) (hq : L.length = q) (hd : dstOk n dst = true)
    (h : DT P n ops C Q r (updo f dst (.ref l q 0 (m + 0))) (L.set j none ++ [some ⟨e, l, bx.es ++ []⟩])) : DT P n ops C Q (i :: r) f L :=
  .b ho rfl (StB_of rfl fun C f' hf => St_append (ys := []) ((hf x (by simp [Op.operands, Call.operands])).trans hx) hL hl ht hs hz hzl hb hb128 hpos he hm (Src_nil ((hf y (by simp [Op.operands, Call.operands])).trans hy)) (by simpa using hlim) q hq hd) h

theorem DT_store {t : TypeId} {x y : Operand} {l l' l'' : Lay} {j k o : Nat} {p : List Nat} {bx : Box} {e e0 e' v : V} (ho : ops[i]? = some ⟨dst, .store t x y, ty, pos, after, none⟩)
    (hx : ev f x = .ptr l j k p) (hy : ev f y = v) (hk : v.known = true) (hL : L[j]? = some (some bx)) (hbl : bx.l = l) (he : bx.es[k]? = some e)
    (hp : e.at? l p = some (o, l', e0)) (hq : l.at? p = some (o, l'')) (hlen : v.len? = l'.len) (hs : tySize P t = some l'.len) (hput : e.put? p v = some e') (hd : dstOk n dst = true)
    (h : DT P n ops C Q r (updo f dst .any) (L.set j (some { bx with es := bx.es.set k e' }))) : DT P n ops C Q (i :: r) f L :=
  .b ho rfl (StB_of rfl fun C f' hf => St_store ((hf x (by simp [Op.operands])).trans hx) ((hf y (by simp [Op.operands])).trans hy) hk hL hbl he hp hq hlen hs hput hd) h
end
end Go.Eng

/- The engine: short forms, second part. -/
set_option linter.unusedVariables false
namespace Go.Eng

def upto : Nat → Nat → List Nat
  | _, 0 => []
  | i, k + 1 => i :: upto (i + 1) k
def allD : List V → Option (List D)
  | [] => some []
  | .d x :: r => match allD r with
    | some ds => some (x :: ds)
    | none => none
  | _ => none
def forceL : List V → Option (List V)
  | [] => some []
  | v :: r => match forceL r with
    | some vs => match v with
      | .any => none
      | .d x => some (.d x :: vs)
      | .agg a b => some (.agg a b :: vs)
      | .tup _ => none
      | .ref a b c d => some (.ref a b c d :: vs)
      | .ptr a b c d => some (.ptr a b c d :: vs)
      | .fn a b => some (.fn a b :: vs)
    | none => none
/-- A value put into its normal form. -/
def nfV : V → Option V
  | .any => none
  | .d x => some (.d x)
  | .agg a b => some (.agg a b)
  | .tup _ => none
  | .ref a b c d => some (.ref a b c d)
  | .ptr a b c d => some (.ptr a b c d)
  | .fn a b => some (.fn a b)
theorem nf {v u : V} (h : nfV v = some u) : v = u := by
  cases v <;> simp only [nfV, Option.some.injEq] at h <;> first | exact h | cases h
theorem allD_spec : ∀ {vs : List V} {ds : List D}, allD vs = some ds → vs = ds.map V.d
  | [], ds, h => by simp only [allD, Option.some.injEq] at h; subst h; rfl
  | v :: r, ds, h => by
    cases v <;> simp only [allD] at h <;> try (cases h; done)
    split at h
    · rename_i ds' e
      simp only [Option.some.injEq] at h
      subst h
      simp [allD_spec e]
    · cases h
theorem forceL_spec : ∀ {vs us : List V}, forceL vs = some us → vs = us
  | [], us, h => by simp only [forceL, Option.some.injEq] at h; exact h
  | v :: r, us, h => by
    simp only [forceL] at h
    split at h
    · rename_i vs e
      have := forceL_spec e
      subst this
      cases v <;> simp only [Option.some.injEq] at h <;> first | exact h | cases h
    · cases h
theorem parts_of {f : Fr} : ∀ {ps : List (Nat × Operand)} {i : Nat} {us : List V}, ps.map (·.1) = upto i ps.length → ps.map (fun q => ev f q.2) = us → ps.map (fun q => (q.1, ev f q.2)) = numb i us
  | [], i, us, _, h => by subst h; rfl
  | q :: ps, i, us, h1, h => by
    subst h
    simp only [List.map_cons, List.length_cons, upto, List.cons.injEq] at h1
    simp only [List.map_cons, numb]
    rw [parts_of (i := i + 1) h1.2 rfl, h1.1]

section
variable {P : Program} {C : Cx} {n : Nat} {ops : Array Oper} {Q : AQ} {f : Fr} {L : Hp} {rest : List Oper} {dst : Option Tmp} {ty : TypeId} {pos : String} {after : Array Edge} {i : Nat} {r : List Nat}

theorem AL_bD {t e : TypeId} {len : Nat} {parts : Array (Nat × Operand)} {z : Value} (l : Lay) {ds : List D} (hp : allD (parts.toList.map (fun q => ev f q.2)) = some ds) (ht : tyElem P t = some e) (hs : tySize P e = some l.len) (hz : tyZero P e = some (some z)) (hi : parts.toList.map (·.1) = upto 0 parts.toList.length)
    (hlen : ds.length = len) (hsmall : len * l.len ≤ 16777216) (hpos : 0 < l.len) (hg : lenDs l.len ds = true) (hd : dstOk n dst = true)
    (h : AL P C n ops rest Q (updo f dst (.d (.sl l ds))) L) : AL P C n ops (⟨dst, .buildSlice t len parts, ty, pos, after, none⟩ :: rest) Q f L :=
  AL_buildD l ht hs hz (parts_of hi (allD_spec hp)) hlen hsmall hpos hg hd h
theorem DT_bD {t e : TypeId} {len : Nat} {parts : Array (Nat × Operand)} {z : Value} (l : Lay) {ds : List D} (ho : ops[i]? = some ⟨dst, .buildSlice t len parts, ty, pos, after, none⟩) (hp : allD (parts.toList.map (fun q => ev f q.2)) = some ds) (ht : tyElem P t = some e) (hs : tySize P e = some l.len) (hz : tyZero P e = some (some z)) (hi : parts.toList.map (·.1) = upto 0 parts.toList.length)
    (hlen : ds.length = len) (hsmall : len * l.len ≤ 16777216) (hpos : 0 < l.len) (hg : lenDs l.len ds = true) (hd : dstOk n dst = true)
    (h : DT P n ops C Q r (updo f dst (.d (.sl l ds))) L) : DT P n ops C Q (i :: r) f L :=
  DT_buildD l ho ht hs hz (parts_of hi (allD_spec hp)) hlen hsmall hpos hg hd h
theorem AL_bV {t e : TypeId} {len : Nat} {parts : Array (Nat × Operand)} {z : Value} (l : Lay) {vs : List V} (hp : forceL (parts.toList.map (fun q => ev f q.2)) = some vs) (ht : tyElem P t = some e) (hs : tySize P e = some l.len) (hz : tyZero P e = some (some z)) (hi : parts.toList.map (·.1) = upto 0 parts.toList.length)
    (hlen : vs.length = len) (hsmall : len * l.len ≤ 16777216) (hpos : 0 < l.len) (hg : goodVs l.len vs = true) (m : Nat) (hm : L.length = m) (hd : dstOk n dst = true)
    (h : AL P C n ops rest Q (updo f dst (.ref l m 0 len)) (L ++ [some ⟨e, l, vs⟩])) : AL P C n ops (⟨dst, .buildSlice t len parts, ty, pos, after, none⟩ :: rest) Q f L :=
  AL_buildSlice l ht hs hz (parts_of hi (forceL_spec hp)) hlen hsmall hpos hg m hm hd h

/-- A slice that is read alone is no longer than a slice may be. -/
theorem AL_lim {x : Operand} {l : Lay} {xs : List D} (hx : ev f x = .d (.sl l xs)) (h : xs.length ≤ 1099511627776 → AL P C n ops rest Q f L) : AL P C n ops rest Q f L := by
  intro a w β S hr
  have hv := rel_ev hr x
  rw [hx] at hv
  obtain ⟨A, cap, h1, h2, h3, h4⟩ := VR_sl hv
  exact h (by first | exact h3 | exact h4) a w β S hr
theorem AL_limB {x : Operand} {l : Lay} {j m : Nat} {bx : Box} (hx : ev f x = .ref l j 0 m) (hL : L[j]? = some (some bx)) (hm : bx.es.length = m) (h : m ≤ 1099511627776 → AL P C n ops rest Q f L) : AL P C n ops rest Q f L := by
  intro a w β S hr
  exact h (by rw [← hm]; exact (hr.hp.bx j bx hL).1) a w β S hr

end
theorem VwL_app {L : Hp} {src : List (Option Nat)} {xs ys zs : List D} (h : xs ++ ys = zs) : VwL L src (xs.map V.d ++ ys.map V.d) (zs.map V.d) := by
  rw [← List.map_append, h]
  exact VwL_d _
theorem VwL_dd {L : Hp} {src : List (Option Nat)} {xs zs : List D} (h : xs = zs) : VwL L src (xs.map V.d) (zs.map V.d) := by subst h; exact VwL_d _
end Go.Eng

/- The engine: trees of blocks that stand apart, contracts that hand them out, contexts begun anew. -/
set_option linter.unusedVariables false
set_option linter.unusedSimpArgs false
namespace Go.Eng

mutual
/-- Cells that hold data, and the blocks of it, each met once. -/
def Tr (w : World) : D → List Value → List Nat → Prop
  | .c x, cs, M => cs = [x] ∧ Value.scalar x = true ∧ M = []
  | .agg fs ds, cs, M => Trs w fs ds cs M
  | .sl l xs, cs, M => (cs = [.slice none 0 0] ∧ xs = [] ∧ M = []) ∨
      ∃ b Cp cur ty vs M', M = b :: M' ∧ b ∉ M' ∧ cs = [.slice (some ⟨b, 0, none⟩) xs.length Cp] ∧ w.heap[b]? = some (.cells cur ty (0, 0)) ∧ cur.size = Cp * l.len ∧ xs.length ≤ Cp ∧ Cp ≤ maxLen ∧ xs.length ≤ lim ∧
        Trs w (List.replicate xs.length l) xs vs M' ∧ ∀ (j : Nat) (x : Value), vs[j]? = some x → cur[j]? = some x
  | .rp _ _ _, _, _ => False
  | .fn _ _, _, _ => False
def Trs (w : World) : List Lay → List D → List Value → List Nat → Prop
  | fs, [], cs, M => fs = [] ∧ cs = [] ∧ M = []
  | fs, d :: ds, cs, M => ∃ f fr c1 c2 M1 M2, fs = f :: fr ∧ cs = c1 ++ c2 ∧ c1.length = f.len ∧ M = M1 ++ M2 ∧ (∀ b ∈ M1, b ∉ M2) ∧ Tr w d c1 M1 ∧ Trs w fr ds c2 M2
end

mutual
theorem Tr_keep {w w' : World} : ∀ (d : D) (cs : List Value) (M : List Nat), (∀ b ∈ M, w'.heap[b]? = w.heap[b]?) → Tr w d cs M → Tr w' d cs M
  | .c x, cs, M, hb, h => by simpa only [Tr] using h
  | .agg fs ds, cs, M, hb, h => by
    simp only [Tr] at h ⊢
    exact Trs_keep ds fs cs M hb h
  | .sl l xs, cs, M, hb, h => by
    simp only [Tr] at h ⊢
    rcases h with h | ⟨b, Cp, cur, ty, vs, M', rfl, h2, h3, h4, h5, h6, h7, h8, h9, h10⟩
    · exact .inl h
    · exact .inr ⟨b, Cp, cur, ty, vs, M', rfl, h2, h3, (hb b (by simp)).trans h4, h5, h6, h7, h8, Trs_keep xs _ vs M' (fun b' hb' => hb b' (by simp [hb'])) h9, h10⟩
  | .rp _ _ _, cs, M, hb, h => by simp only [Tr] at h
  | .fn _ _, cs, M, hb, h => by simp only [Tr] at h
theorem Trs_keep {w w' : World} : ∀ (ds : List D) (fs : List Lay) (cs : List Value) (M : List Nat), (∀ b ∈ M, w'.heap[b]? = w.heap[b]?) → Trs w fs ds cs M → Trs w' fs ds cs M
  | [], fs, cs, M, hb, h => by simpa only [Trs] using h
  | d :: ds, fs, cs, M, hb, h => by
    simp only [Trs] at h ⊢
    obtain ⟨f, fr, c1, c2, M1, M2, h1, h2, h3, rfl, h5, h6, h7⟩ := h
    exact ⟨f, fr, c1, c2, M1, M2, h1, h2, h3, rfl, h5, Tr_keep d c1 M1 (fun b hm => hb b (by simp [hm])) h6, Trs_keep ds fr c2 M2 (fun b hm => hb b (by simp [hm])) h7⟩
end

mutual
theorem Tr_DC {S : Nat → Prop} {w : World} : ∀ (d : D) (cs : List Value) (M : List Nat), (∀ b ∈ M, S b) → Tr w d cs M → DC S w d cs
  | .c x, cs, M, hb, h => by
    simp only [Tr, DC] at h ⊢
    exact ⟨h.1, h.2.1⟩
  | .agg fs ds, cs, M, hb, h => by
    simp only [Tr, DC] at h ⊢
    exact Trs_DC ds fs cs M hb h
  | .sl l xs, cs, M, hb, h => by
    simp only [Tr, DC] at h ⊢
    rcases h with ⟨h1, rfl, _⟩ | ⟨b, Cp, cur, ty, vs, M', rfl, h2, h3, h4, h5, h6, h7, h8, h9, h10⟩
    · exact ⟨none, 0, 0, h1, rfl, Nat.le_refl _, Nat.zero_le _, .inl rfl⟩
    · refine ⟨_, _, _, h3, rfl, h6, h8, .inr ⟨b, 0, vs, rfl, hb b (by simp), Trs_DC xs _ vs M' (fun b' hb' => hb b' (by simp [hb'])) h9, fun j x hx => ?_⟩⟩
      simp [World.cell?, h4, h10 j x hx]
  | .rp _ _ _, cs, M, hb, h => by simp only [Tr] at h
  | .fn _ _, cs, M, hb, h => by simp only [Tr] at h
theorem Trs_DC {S : Nat → Prop} {w : World} : ∀ (ds : List D) (fs : List Lay) (cs : List Value) (M : List Nat), (∀ b ∈ M, S b) → Trs w fs ds cs M → DCs S w fs ds cs
  | [], fs, cs, M, hb, h => by
    simp only [Trs, DCs] at h ⊢
    exact ⟨h.1, h.2.1⟩
  | d :: ds, fs, cs, M, hb, h => by
    simp only [Trs, DCs] at h ⊢
    obtain ⟨f, fr, c1, c2, M1, M2, h1, h2, h3, rfl, h5, h6, h7⟩ := h
    exact ⟨f, fr, c1, c2, h1, h2, h3, Tr_DC d c1 M1 (fun b hm => hb b (by simp [hm])) h6, Trs_DC ds fr c2 M2 (fun b hm => hb b (by simp [hm])) h7⟩
end

mutual
theorem Tr_lt {w : World} : ∀ (d : D) (cs : List Value) (M : List Nat), Tr w d cs M → ∀ b ∈ M, b < w.heap.size
  | .c x, cs, M, h => by
    simp only [Tr] at h
    rw [h.2.2]; simp
  | .agg fs ds, cs, M, h => by
    simp only [Tr] at h
    exact Trs_lt ds fs cs M h
  | .sl l xs, cs, M, h => by
    simp only [Tr] at h
    rcases h with ⟨h1, rfl, rfl⟩ | ⟨b, Cp, cur, ty, vs, M', rfl, h2, h3, h4, h5, h6, h7, h8, h9, h10⟩
    · simp
    · intro b' hb'
      rcases List.mem_cons.1 hb' with rfl | hb'
      · exact (Array.getElem?_eq_some_iff.1 h4).1
      · exact Trs_lt xs _ vs M' h9 b' hb'
  | .rp _ _ _, cs, M, h => by simp only [Tr] at h
  | .fn _ _, cs, M, h => by simp only [Tr] at h
theorem Trs_lt {w : World} : ∀ (ds : List D) (fs : List Lay) (cs : List Value) (M : List Nat), Trs w fs ds cs M → ∀ b ∈ M, b < w.heap.size
  | [], fs, cs, M, h => by
    simp only [Trs] at h
    rw [h.2.2]; simp
  | d :: ds, fs, cs, M, h => by
    simp only [Trs] at h
    obtain ⟨f, fr, c1, c2, M1, M2, h1, h2, h3, rfl, h5, h6, h7⟩ := h
    intro b hb
    rcases List.mem_append.1 hb with hb | hb
    · exact Tr_lt d c1 M1 h6 b hb
    · exact Trs_lt ds fr c2 M2 h7 b hb
end

theorem Trs_app {w : World} : ∀ (ds : List D) (fs : List Lay) (cs : List Value) (M : List Nat) {ds' : List D} {fs' : List Lay} {cs' : List Value} {M' : List Nat}, Trs w fs ds cs M → Trs w fs' ds' cs' M' → (∀ b ∈ M, b ∉ M') → Trs w (fs ++ fs') (ds ++ ds') (cs ++ cs') (M ++ M')
  | [], fs, cs, M, ds', fs', cs', M', h, k, hd => by
    simp only [Trs] at h
    obtain ⟨rfl, rfl, rfl⟩ := h
    exact k
  | d :: ds, fs, cs, M, ds', fs', cs', M', h, k, hd => by
    simp only [Trs] at h
    obtain ⟨f, fr, c1, c2, M1, M2, rfl, rfl, h3, rfl, h5, h6, h7⟩ := h
    simp only [List.cons_append, Trs]
    refine ⟨f, fr ++ fs', c1, c2 ++ cs', M1, M2 ++ M', rfl, by simp, h3, by simp, fun b hb hb2 => ?_, h6, Trs_app ds fr c2 M2 h7 k fun b hb => hd b (by simp [hb])⟩
    rcases List.mem_append.1 hb2 with hb2 | hb2
    · exact h5 b hb hb2
    · exact hd b (by simp [hb]) hb2

/-! ### Values told by their cells -/
mutual
def rawV : Lay → List Value → V
  | .one, cs => .d (.c (cs.headD undef))
  | .st fs, cs => .agg fs (raws fs cs)
def raws : List Lay → List Value → List V
  | [], _ => []
  | f :: fr, cs => rawV f (cs.take f.len) :: raws fr (cs.drop f.len)
end
def Lay.ag : Lay → Bool
  | .one => false
  | .st _ => true
mutual
theorem rawV_VC {β : Beta} {S : Nat → Prop} {w : World} : ∀ (l : Lay) (cs : List Value), cs.length = l.len → (∀ x ∈ cs, Value.scalar x = true) → VC β S w (rawV l cs) cs
  | .one, cs, hl, hs => by
    simp only [Lay.len] at hl
    match cs, hl with
    | [x], _ =>
      simp only [rawV, List.headD_cons, VC, DC]
      exact ⟨trivial, hs x (by simp)⟩
  | .st fs, cs, hl, hs => by
    simp only [rawV, VC]
    exact raws_VC fs cs (by simpa only [Lay.len] using hl) hs
theorem raws_VC {β : Beta} {S : Nat → Prop} {w : World} : ∀ (fs : List Lay) (cs : List Value), cs.length = Lay.lens fs → (∀ x ∈ cs, Value.scalar x = true) → VCs β S w fs (raws fs cs) cs
  | [], cs, hl, hs => by
    simp only [Lay.lens] at hl
    simp only [raws, VCs]
    exact ⟨trivial, List.eq_nil_of_length_eq_zero hl⟩
  | f :: fr, cs, hl, hs => by
    simp only [Lay.lens] at hl
    simp only [raws, VCs]
    refine ⟨f, fr, cs.take f.len, cs.drop f.len, rfl, (List.take_append_drop _ _).symm, by simp; omega, rawV_VC f _ (by simp; omega) fun x hx => hs x (List.mem_of_mem_take hx), raws_VC fr _ (by simp; omega) fun x hx => hs x (List.mem_of_mem_drop hx)⟩
end
mutual
/-- The cells of such a value are these and no others. -/
theorem rawV_cells {β : Beta} {S : Nat → Prop} {w : World} : ∀ (l : Lay) (cs cs' : List Value), cs.length = l.len → VC β S w (rawV l cs) cs' → cs' = cs
  | .one, cs, cs', hl, h => by
    simp only [Lay.len] at hl
    match cs, hl with
    | [x], _ =>
      simp only [rawV, List.headD_cons, VC, DC] at h
      exact h.1
  | .st fs, cs, cs', hl, h => by
    simp only [rawV, VC] at h
    exact raws_cells fs cs cs' (by simpa only [Lay.len] using hl) h
theorem raws_cells {β : Beta} {S : Nat → Prop} {w : World} : ∀ (fs : List Lay) (cs cs' : List Value), cs.length = Lay.lens fs → VCs β S w fs (raws fs cs) cs' → cs' = cs
  | [], cs, cs', hl, h => by
    simp only [Lay.lens] at hl
    simp only [raws, VCs] at h
    rw [h.2, List.eq_nil_of_length_eq_zero hl]
  | f :: fr, cs, cs', hl, h => by
    simp only [Lay.lens] at hl
    simp only [raws, VCs] at h
    obtain ⟨f', fr', c1, c2, e, rfl, h3, h4, h5⟩ := h
    injection e with e1 e2
    subst e1; subst e2
    rw [rawV_cells f _ c1 (by simp; omega) h4, raws_cells fr _ c2 (by simp; omega) h5]
    exact List.take_append_drop _ _
end
theorem rawV_isAgg (l : Lay) (cs : List Value) : (rawV l cs).isAgg = l.ag := by cases l <;> rfl
theorem rawV_known (l : Lay) (cs : List Value) : (rawV l cs).known = true := by cases l <;> rfl
theorem VCs_raws {β : Beta} {S : Nat → Prop} {w : World} {l : Lay} : ∀ (css : List (List Value)) (cs : List Value), (∀ c ∈ css, c.length = l.len) → VCs β S w (List.replicate css.length l) (css.map (rawV l)) cs → cs = css.flatten
  | [], cs, _, h => by
    simp only [List.map_nil, VCs] at h
    simpa using h.2
  | c :: css, cs, hl, h => by
    simp only [List.map_cons, List.length_cons, List.replicate_succ, VCs] at h
    obtain ⟨f', fr', c1, c2, e, rfl, h3, h4, h5⟩ := h
    injection e with e1 e2
    subst e1; subst e2
    rw [rawV_cells l c c1 (hl c (by simp)) h4, VCs_raws css c2 (fun c hc => hl c (by simp [hc])) h5]
    simp
mutual
theorem Tr_scalar {w : World} : ∀ (d : D) (cs : List Value) (M : List Nat), Tr w d cs M → ∀ x ∈ cs, Value.scalar x = true
  | .c x, cs, M, h => by
    simp only [Tr] at h
    rw [h.1]
    intro y hy
    rw [List.mem_singleton] at hy
    rw [hy]; exact h.2.1
  | .agg fs ds, cs, M, h => by
    simp only [Tr] at h
    exact Trs_scalar ds fs cs M h
  | .sl l xs, cs, M, h => by
    simp only [Tr] at h
    rcases h with ⟨rfl, _⟩ | ⟨b, Cp, cur, ty, vs, M', _, _, rfl, _⟩ <;> (intro y hy; rw [List.mem_singleton] at hy; rw [hy]; rfl)
  | .rp _ _ _, cs, M, h => by simp only [Tr] at h
  | .fn _ _, cs, M, h => by simp only [Tr] at h
theorem Trs_scalar {w : World} : ∀ (ds : List D) (fs : List Lay) (cs : List Value) (M : List Nat), Trs w fs ds cs M → ∀ x ∈ cs, Value.scalar x = true
  | [], fs, cs, M, h => by
    simp only [Trs] at h
    rw [h.2.1]; simp
  | d :: ds, fs, cs, M, h => by
    simp only [Trs] at h
    obtain ⟨f, fr, c1, c2, M1, M2, h1, rfl, h3, rfl, h5, h6, h7⟩ := h
    intro x hx
    rcases List.mem_append.1 hx with hx | hx
    · exact Tr_scalar d c1 M1 h6 x hx
    · exact Trs_scalar ds fr c2 M2 h7 x hx
end
theorem Tr_len {w : World} {d : D} {cs : List Value} {M : List Nat} (h : Tr w d cs M) : cs.length = d.len? := DC_len (S := fun _ => True) (Tr_DC d cs M (fun _ _ => trivial) h)

/-! ### Contexts begun anew -/
def boxBlk (L : Hp) (β : Beta) (b : Nat) : Prop := ∃ i bx c, L[i]? = some (some bx) ∧ β i = some (some (b, c))
section
variable {P : Program} {C : Cx} {n : Nat} {f : Fr} {L : Hp} {Q : AQ} {ops : Array Oper} {rest : List Oper} {dst : Option Tmp} {ty : TypeId} {pos : String} {after : Array Edge}
theorem Rel.restart {a : Act} {w : World} {β : Beta} {S : Nat → Prop} (h : Rel C n f L a w β S) : CExt C ⟨w, boxBlk L β, S⟩ ∧ Rel ⟨w, boxBlk L β, S⟩ n f L a w β S :=
  ⟨⟨h.pres, fun b ⟨i, bx, c, hL, hb⟩ => h.own i bx b c hL hb, h.s0, h.fz⟩, ⟨h.df, h.sz, h.fr, h.hp, fun i bx b c hL hb => .inl ⟨i, bx, c, hL, hb⟩, fun b hb => .inl hb, fun b hb => hb, Pres.refl _ _⟩⟩

/-- A tree that the context leaves alone. -/
structure Has (B : Nat) (C : Cx) (d : D) (cs : List Value) (K : List Nat) : Prop where
  tr : Tr C.w0 d cs K
  dm : ∀ b ∈ K, ¬ C.Dm b
  s0 : ∀ b ∈ K, ¬ C.S0 b
  lo : ∀ b ∈ K, B ≤ b
structure HasL (B : Nat) (C : Cx) (l : Lay) (css : List (List Value)) (ds : List D) (K : List Nat) : Prop where
  tr : Trs C.w0 (List.replicate ds.length l) ds css.flatten K
  len : css.length = ds.length
  each : ∀ c ∈ css, c.length = l.len
  dm : ∀ b ∈ K, ¬ C.Dm b
  s0 : ∀ b ∈ K, ¬ C.S0 b
  lo : ∀ b ∈ K, B ≤ b
theorem keep_ext {C C' : Cx} (h : CExt C C') {K : List Nat} (lt : ∀ b ∈ K, b < C.w0.heap.size) (dm : ∀ b ∈ K, ¬ C.Dm b) (s0 : ∀ b ∈ K, ¬ C.S0 b) : (∀ b ∈ K, C'.w0.heap[b]? = C.w0.heap[b]?) ∧ (∀ b ∈ K, ¬ C'.Dm b) ∧ (∀ b ∈ K, ¬ C'.S0 b) := by
  refine ⟨fun b hb => h.pres.block b (lt b hb) (dm b hb), fun b hb hd => ?_, fun b hb hd => ?_⟩
  · rcases h.dm b hd with h1 | h1
    · exact dm b hb h1
    · have := lt b hb; omega
  · rcases h.fz b hd with h1 | h1 | h1
    · exact s0 b hb h1
    · have := lt b hb; omega
    · exact dm b hb h1
theorem Has.ext {B : Nat} {C C' : Cx} {d : D} {cs : List Value} {K : List Nat} (k : Has B C d cs K) (h : CExt C C') : Has B C' d cs K := by
  obtain ⟨h1, h2, h3⟩ := keep_ext h (Tr_lt _ _ _ k.tr) k.dm k.s0
  exact ⟨Tr_keep _ _ _ h1 k.tr, h2, h3, k.lo⟩
theorem HasL.ext {B : Nat} {C C' : Cx} {l : Lay} {css : List (List Value)} {ds : List D} {K : List Nat} (k : HasL B C l css ds K) (h : CExt C C') : HasL B C' l css ds K := by
  obtain ⟨h1, h2, h3⟩ := keep_ext h (Trs_lt _ _ _ _ k.tr) k.dm k.s0
  exact ⟨Trs_keep _ _ _ _ h1 k.tr, k.len, k.each, h2, h3, k.lo⟩
theorem Has.le {B B' : Nat} {C : Cx} {d : D} {cs : List Value} {K : List Nat} (k : Has B C d cs K) (h : B' ≤ B) : Has B' C d cs K := ⟨k.tr, k.dm, k.s0, fun b hb => Nat.le_trans h (k.lo b hb)⟩
theorem HasL.nil {B : Nat} {C : Cx} {l : Lay} : HasL B C l [] [] [] := ⟨by simp [Trs], rfl, by simp, by simp, by simp, by simp⟩
theorem rep_snoc {A : Type} (k : Nat) (l : A) : List.replicate (k + 1) l = List.replicate k l ++ [l] := List.replicate_succ'
theorem Trs_one {w : World} {d : D} {l : Lay} {cs : List Value} {K : List Nat} (h : Tr w d cs K) (hl : cs.length = l.len) : Trs w [l] [d] cs K := by
  simp only [Trs]
  exact ⟨l, [], cs, [], K, [], rfl, by simp, hl, by simp, by simp, h, rfl, rfl, rfl⟩
/-- One more tree behind the others; it came later. -/
theorem HasL.snoc {B : Nat} {C C' : Cx} {l : Lay} {css : List (List Value)} {ds : List D} {K K' : List Nat} {d : D} {cs : List Value} (h : HasL B C l css ds K) (hx : CExt C C') (k : Has C.w0.heap.size C' d cs K') (hB : B ≤ C.w0.heap.size) (hl : d.len? = l.len) : HasL B C' l (css ++ [cs]) (ds ++ [d]) (K ++ K') := by
  have h' := h.ext hx
  have hlt := Trs_lt _ _ _ _ h.tr
  have hcs := (Tr_len k.tr).trans hl
  refine ⟨?_, by simp [h.len], ?_, ?_, ?_, ?_⟩
  · rw [List.length_append, List.length_singleton, rep_snoc, List.flatten_append]
    refine Trs_app _ _ _ _ h'.tr ?_ fun b hb hb2 => by have := hlt b hb; have := k.lo b hb2; omega
    simpa using Trs_one k.tr hcs
  all_goals
    intro b hb
    rcases List.mem_append.1 hb with hb | hb
  · exact h.each b hb
  · rw [List.mem_singleton] at hb; rw [hb]; exact hcs
  · exact h'.dm b hb
  · exact k.dm b hb
  · exact h'.s0 b hb
  · exact k.s0 b hb
  · exact h.lo b hb
  · exact Nat.le_trans hB (k.lo b hb)

/-- A function whose result stands apart: new blocks, each met once. -/
def OCall (P : Program) (k : FuncId) (ds : List D) (r : D) : Prop :=
  ∀ (w : World) (S : Nat → Prop) (xs : List Value), (∀ b, S b → b < w.heap.size) → Tab P S w → All2 (RD S w) ds xs →
    Calls P k xs.toArray w fun e w' => ∃ x M, e = .returned x ∧ Tr w' r x.cells.toList M ∧ r.isAgg = isAggV x ∧ (∀ b ∈ M, w.heap.size ≤ b) ∧ Pres (fun _ => False) w w'

theorem OCall.pcall {k : FuncId} {ds : List D} {r : D} (h : OCall P k ds r) : PCall P k ds (· = [r]) := fun w S xs hS hT hd =>
  (h w S xs hS hT hd).mono fun e w' ⟨x, M, h1, h2, h3, h4, h5⟩ => by
    have hlt := Tr_lt _ _ _ h2
    refine ⟨x, [r], fun b => S b ∨ b ∈ M, h1, rfl, ⟨Tr_DC _ _ M (fun b hb => .inr hb) h2, h3⟩, fun b hb => .inl hb, ?_, h5⟩
    rintro b (hb | hb)
    · exact ⟨by have := hS b hb; have := h5.size; omega, .inl hb⟩
    · exact ⟨hlt b hb, .inr (h4 b hb)⟩

/-- The state behind a call that turned nothing that was there; what is read alone is no more than before. -/
theorem Rel.called0 {a : Act} {w w' : World} {β : Beta} {S : Nat → Prop} (h : Rel C n f L a w β S) (hp : Pres (fun _ => False) w w') : Rel C n f L a w' β S :=
  h.called hp (fun _ h => h) fun b hb => ⟨by have := h.hp.fz b hb; have := hp.size; omega, .inl hb⟩

theorem raw_VR {β : Beta} {S : Nat → Prop} {w : World} {l : Lay} {r : D} {x : Value} {M : List Nat} (h : Tr w r x.cells.toList M) (hag : r.isAgg = isAggV x) (hl : r.len? = l.len) (hla : l.ag = r.isAgg) : VR β S w (rawV l x.cells.toList) x :=
  VR_of_VR0 (.inr ⟨rawV_VC l _ ((Tr_len h).trans hl) (Tr_scalar _ _ _ h), by rw [rawV_isAgg, hla, hag]⟩)

/-- What a call has handed out. -/
structure Got (C : Cx) (r : D) (l : Lay) (C' : Cx) (cs : List Value) (K : List Nat) : Prop where
  ext : CExt C C'
  has : Has C.w0.heap.size C' r cs K
  len : cs.length = l.len

theorem got_of {a : Act} {w w' : World} {β : Beta} {S : Nat → Prop} (h : Rel C n f L a w β S) (hp : Pres (fun _ => False) w w') {r : D} {l : Lay} {cs : List Value} {M : List Nat} (ht : Tr w' r cs M) (hlo : ∀ b ∈ M, w.heap.size ≤ b) (hl : r.len? = l.len) {a' : Act} {f' : Fr} (hr' : Rel C n f' L a' w' β S) :
    ∃ C', Got C r l C' cs M ∧ Rel C' n f' L a' w' β S := by
  obtain ⟨h1, h2⟩ := hr'.restart
  refine ⟨_, ⟨h1, ⟨ht, fun b hb ⟨i, bx, c, hL, hbi⟩ => ?_, fun b hb hs => ?_, fun b hb => ?_⟩, (Tr_len ht).trans hl⟩, h2⟩
  · have := (h.hp.bx i bx hL).lt hbi; have := hlo b hb; omega
  · have := h.hp.fz b hs; have := hlo b hb; omega
  · have := h.pres.size; have := hlo b hb; omega

theorem AL_ocall (hT : CT P C) {x : Operand} {args : Array Operand} {ts : Array TypeId} {k : FuncId} {ds caps : List D} {r : D} (l : Lay) (hx : ev f x = .d (.fn k caps)) (hcaps : caps.all (fun d => !d.isAgg) = true) (hc : Callable P k)
    (hp : OCall P k (ds ++ caps) r) (ha : args.toList.map (ev f) = ds.map V.d) (hl : r.len? = l.len) (hla : l.ag = r.isAgg) (hd : dstOk n dst = true) (h : ∀ C' cs K, Got C r l C' cs K → AL P C' n ops rest Q (updo f dst (rawV l cs)) L) : AL P C n ops (⟨dst, callV x args ts, ty, pos, after, none⟩ :: rest) Q f L := by
  intro a w β S hr
  refine wpList_plain rfl fun K hK => ?_
  have hv := rel_ev hr x
  rw [hx] at hv
  obtain ⟨xs, h1, h2⟩ := VR_fn hv
  unfold Oper.wp
  rw [call_run hc h1, Oper.upon_enter]
  have hall := (args_RD hr args.toList ds ha).append (caps_RD caps xs hcaps h2)
  have heq : (args.map a.eval ++ xs.toArray) = (args.toList.map a.eval ++ xs).toArray := by simp
  rw [heq]
  refine (hp w S _ hr.hp.fz (hT.tab hr) hall).mono ?_
  rintro e w' ⟨y, M, rfl, q1, q2, q3, q4⟩
  obtain ⟨C', hg, hr'⟩ := got_of hr q4 q1 q3 hl ((hr.called0 q4).puto (dstOk_spec hd) (raw_VR q1 q2 hl hla))
  exact hK _ _ (h C' _ M hg _ _ _ _ hr')

theorem AL_ocall0 (hT : CT P C) {x : Operand} {args : Array Operand} {ts : Array TypeId} {k : FuncId} {ds : List D} {r : D} (l : Lay) (hx : ev f x = .d (.fn k [])) (hc : Callable P k)
    (hp : OCall P k ds r) (ha : args.toList.map (ev f) = ds.map V.d) (hl : r.len? = l.len) (hla : l.ag = r.isAgg) (hd : dstOk n dst = true) (h : ∀ C' cs K, Got C r l C' cs K → AL P C' n ops rest Q (updo f dst (rawV l cs)) L) : AL P C n ops (⟨dst, callV x args ts, ty, pos, after, none⟩ :: rest) Q f L :=
  AL_ocall hT (caps := []) l hx rfl hc (by rw [List.append_nil]; exact hp) ha hl hla hd h
end
end Go.Eng

/- The engine: what a state holds as trees that stand apart; results of that kind. -/
set_option linter.unusedVariables false
set_option linter.unusedSimpArgs false
namespace Go.Eng

mutual
/-- Raw cells as data. -/
def rawD : Lay → List Value → D
  | .one, cs => .c (cs.headD undef)
  | .st fs, cs => .agg fs (rawDs fs cs)
def rawDs : List Lay → List Value → List D
  | [], _ => []
  | f :: fr, cs => rawD f (cs.take f.len) :: rawDs fr (cs.drop f.len)
end
mutual
theorem rawD_DC {β : Beta} {S : Nat → Prop} {w : World} : ∀ (l : Lay) (cs cs' : List Value), DC S w (rawD l cs) cs' ↔ VC β S w (rawV l cs) cs'
  | .one, cs, cs' => by simp only [rawD, rawV, VC]
  | .st fs, cs, cs' => by
    simp only [rawD, rawV, VC, DC]
    exact rawDs_DC fs fs cs cs'
theorem rawDs_DC {β : Beta} {S : Nat → Prop} {w : World} : ∀ (fs fs' : List Lay) (cs cs' : List Value), DCs S w fs' (rawDs fs cs) cs' ↔ VCs β S w fs' (raws fs cs) cs'
  | [], fs', cs, cs' => by simp only [rawDs, raws, DCs, VCs]
  | f :: fr, fs', cs, cs' => by
    simp only [rawDs, raws, DCs, VCs]
    constructor
    · rintro ⟨g, gr, c1, c2, h1, h2, h3, h4, h5⟩
      exact ⟨g, gr, c1, c2, h1, h2, h3, (rawD_DC f _ c1).1 h4, (rawDs_DC fr gr _ c2).1 h5⟩
    · rintro ⟨g, gr, c1, c2, h1, h2, h3, h4, h5⟩
      exact ⟨g, gr, c1, c2, h1, h2, h3, (rawD_DC f _ c1).2 h4, (rawDs_DC fr gr _ c2).2 h5⟩
end
theorem rawD_isAgg (l : Lay) (cs : List Value) : (rawD l cs).isAgg = l.ag := by cases l <;> rfl
theorem rawD_len : ∀ (l : Lay) (cs : List Value), (rawD l cs).len? = l.len
  | .one, cs => by simp [rawD, D.len?, Lay.len]
  | .st fs, cs => by simp [rawD, D.len?, Lay.len]
theorem rawD_VR {β : Beta} {S : Nat → Prop} {w : World} {l : Lay} {cs : List Value} {x : Value} (h : VR β S w (rawV l cs) x) : VR β S w (.d (rawD l cs)) x := by
  rcases known_VR0 h (rawV_known l cs) with h1 | ⟨h1, h2⟩
  · have := rawV_known l cs; rw [h1] at this; cases this
  · refine .inr ⟨?_, ?_⟩
    · simp only [VC]; exact (rawD_DC l cs _).2 h1
    · rw [← h2, rawV_isAgg]; exact rawD_isAgg l cs
theorem DCs_rawD {S : Nat → Prop} {w : World} {l : Lay} : ∀ (css : List (List Value)) (cs : List Value), (∀ c ∈ css, c.length = l.len) → DCs S w (List.replicate css.length l) (css.map (rawD l)) cs → cs = css.flatten
  | [], cs, _, h => by
    simp only [List.map_nil, DCs] at h
    simpa using h.2
  | c :: css, cs, hl, h => by
    simp only [List.map_cons, List.length_cons, List.replicate_succ, DCs] at h
    obtain ⟨f', fr', c1, c2, e, rfl, h3, h4, h5⟩ := h
    injection e with e1 e2
    subst e1; subst e2
    rw [rawV_cells (β := fun _ => none) l c c1 (hl c (by simp)) ((rawD_DC l c c1).1 h4), DCs_rawD css c2 (fun c hc => hl c (by simp [hc])) h5]
    simp
theorem DCs_rawD_mk {S : Nat → Prop} {w : World} {l : Lay} : ∀ (css : List (List Value)), (∀ c ∈ css, c.length = l.len) → (∀ x ∈ css.flatten, Value.scalar x = true) → DCs S w (List.replicate css.length l) (css.map (rawD l)) css.flatten
  | [], _, _ => by simp [DCs]
  | c :: css, hl, hs => by
    simp only [List.length_cons, List.replicate_succ, List.map_cons, List.flatten_cons, DCs]
    exact ⟨_, _, c, css.flatten, rfl, rfl, hl c (by simp), (rawD_DC (β := fun _ => none) l c c).2 (rawV_VC l c (hl c (by simp)) (fun x hx => hs x (by simp [hx]))), DCs_rawD_mk css (fun c hc => hl c (by simp [hc])) (fun x hx => hs x (by simp only [List.flatten_cons, List.mem_append]; exact .inr hx))⟩
mutual
/-- Data without memory. -/
def D.flat : D → Bool
  | .c _ => true
  | .agg _ ds => D.flats ds
  | .sl _ _ => false
  | .rp _ _ _ => false
  | .fn _ _ => false
def D.flats : List D → Bool
  | [] => true
  | d :: ds => d.flat && D.flats ds
end
mutual
theorem DC_flat {S : Nat → Prop} {w : World} : ∀ (d : D) (cs : List Value), d.flat = true → DC S w d cs → Tr w d cs []
  | .c x, cs, _, h => by
    simp only [DC] at h
    simp only [Tr]
    exact ⟨h.1, h.2, trivial⟩
  | .agg fs ds, cs, hf, h => by
    simp only [D.flat] at hf
    simp only [DC] at h
    simp only [Tr]
    exact DCs_flat ds fs cs hf h
  | .sl _ _, _, hf, _ => by simp [D.flat] at hf
  | .rp _ _ _, _, hf, _ => by simp [D.flat] at hf
  | .fn _ _, _, hf, _ => by simp [D.flat] at hf
theorem DCs_flat {S : Nat → Prop} {w : World} : ∀ (ds : List D) (fs : List Lay) (cs : List Value), D.flats ds = true → DCs S w fs ds cs → Trs w fs ds cs []
  | [], fs, cs, _, h => by
    simp only [DCs] at h
    simp only [Trs]
    exact ⟨h.1, h.2, trivial⟩
  | d :: ds, fs, cs, hf, h => by
    simp only [D.flats, Bool.and_eq_true] at hf
    simp only [DCs] at h
    obtain ⟨f, fr, c1, c2, h1, h2, h3, h4, h5⟩ := h
    simp only [Trs]
    exact ⟨f, fr, c1, c2, [], [], h1, h2, h3, rfl, by simp, DC_flat d c1 hf.1 h4, DCs_flat ds fr c2 hf.2 h5⟩
end
mutual
/-- A value that is a tree of its own: over boxes I and blocks K. -/
inductive OwV (B : Nat) (C : Cx) (L : Hp) : V → D → List Nat → List Nat → Prop
  | c {x : Value} : OwV B C L (.d (.c x)) (.c x) [] []
  | nil {l : Lay} : OwV B C L nilsl (.sl l []) [] []
  | raw {l : Lay} {d : D} {cs : List Value} {K : List Nat} : Has B C d cs K → cs.length = l.len → OwV B C L (rawV l cs) d [] K
  | agg {fs : List Lay} {vs : List V} {ds : List D} {I K : List Nat} : OwVs B C L fs vs ds I K → OwV B C L (.agg fs vs) (.agg fs ds) I K
  | ref {l : Lay} {i m : Nat} {bx : Box} {ds : List D} {I K : List Nat} : L[i]? = some (some bx) → bx.l = l → bx.es.length = m → OwVs B C L (List.replicate m l) bx.es ds I K → i ∉ I → OwV B C L (.ref l i 0 m) (.sl l ds) (i :: I) K
  | flat {d : D} : d.flat = true → OwV B C L (.d d) d [] []
  | rawd {l : Lay} {d : D} {cs : List Value} {K : List Nat} : Has B C d cs K → cs.length = l.len → OwV B C L (.d (rawD l cs)) d [] K
inductive OwVs (B : Nat) (C : Cx) (L : Hp) : List Lay → List V → List D → List Nat → List Nat → Prop
  | nil : OwVs B C L [] [] [] [] []
  | cons {f : Lay} {fs : List Lay} {v : V} {vs : List V} {d : D} {ds : List D} {I I' K K' : List Nat} : OwV B C L v d I K → OwVs B C L fs vs ds I' K' → (∀ i ∈ I, i ∉ I') → (∀ b ∈ K, b ∉ K') → OwVs B C L (f :: fs) (v :: vs) (d :: ds) (I ++ I') (K ++ K')
  | raws {l : Lay} {css : List (List Value)} {ds : List D} {K : List Nat} : HasL B C l css ds K → OwVs B C L (List.replicate css.length l) (css.map (rawV l)) ds [] K
  | scal {l : Lay} {xs : List Value} : OwVs B C L (List.replicate xs.length l) (xs.map fun x => V.d (.c x)) (xs.map D.c) [] []
  | flats {fs : List Lay} {ds : List D} : D.flats ds = true → OwVs B C L fs (ds.map V.d) ds [] []
  | rawds {l : Lay} {css : List (List Value)} {ds : List D} {K : List Nat} : HasL B C l css ds K → OwVs B C L (List.replicate css.length l) ((css.map (rawD l)).map V.d) ds [] K
end

section
variable {P : Program} {B : Nat} {C : Cx} {n : Nat} {f : Fr} {L : Hp} {a : Act} {w : World} {β : Beta} {S : Nat → Prop}
mutual
theorem OwV_K : ∀ {v : V} {d : D} {I K : List Nat}, OwV B C L v d I K → ∀ b ∈ K, ¬ C.Dm b ∧ b < C.w0.heap.size ∧ B ≤ b
  | _, _, _, _, .c, b, hb => by cases hb
  | _, _, _, _, .nil, b, hb => by cases hb
  | _, _, _, _, .raw h _, b, hb => ⟨h.dm b hb, Tr_lt _ _ _ h.tr b hb, h.lo b hb⟩
  | _, _, _, _, .agg h, b, hb => OwVs_K h b hb
  | _, _, _, _, .ref _ _ _ h _, b, hb => OwVs_K h b hb
  | _, _, _, _, .flat _, b, hb => by cases hb
  | _, _, _, _, .rawd h _, b, hb => ⟨h.dm b hb, Tr_lt _ _ _ h.tr b hb, h.lo b hb⟩
theorem OwVs_K : ∀ {fs : List Lay} {vs : List V} {ds : List D} {I K : List Nat}, OwVs B C L fs vs ds I K → ∀ b ∈ K, ¬ C.Dm b ∧ b < C.w0.heap.size ∧ B ≤ b
  | _, _, _, _, _, .nil, b, hb => by cases hb
  | _, _, _, _, _, .cons h k _ _, b, hb => by
    rcases List.mem_append.1 hb with hb | hb
    · exact OwV_K h b hb
    · exact OwVs_K k b hb
  | _, _, _, _, _, .raws h, b, hb => ⟨h.dm b hb, Trs_lt _ _ _ _ h.tr b hb, h.lo b hb⟩
  | _, _, _, _, _, .scal, b, hb => by cases hb
  | _, _, _, _, _, .flats _, b, hb => by cases hb
  | _, _, _, _, _, .rawds h, b, hb => ⟨h.dm b hb, Trs_lt _ _ _ _ h.tr b hb, h.lo b hb⟩
end

/-- Where the blocks of such a tree lie. -/
def Foot (L : Hp) (β : Beta) (I K : List Nat) (b : Nat) : Prop := b ∈ K ∨ ∃ i ∈ I, ∃ bx c, L[i]? = some (some bx) ∧ β i = some (some (b, c))
theorem Foot_apart (hr : Rel C n f L a w β S) {I I' K K' : List Nat} (hK : ∀ b ∈ K, ¬ C.Dm b ∧ b < C.w0.heap.size ∧ B ≤ b) (hK' : ∀ b ∈ K', ¬ C.Dm b ∧ b < C.w0.heap.size ∧ B ≤ b) (hi : ∀ i ∈ I, i ∉ I') (hb : ∀ b ∈ K, b ∉ K') {b : Nat} (h : Foot L β I K b) : ¬ Foot L β I' K' b := by
  intro h'
  have box : ∀ b, (¬ C.Dm b ∧ b < C.w0.heap.size ∧ B ≤ b) → ∀ i bx c, L[i]? = some (some bx) → β i = some (some (b, c)) → False := by
    intro b ⟨h1, h2, _⟩ i bx c hL hβ
    rcases hr.own i bx b c hL hβ with h3 | h3
    · exact h1 h3
    · omega
  rcases h with h | ⟨i, hi1, bx, c, hL, hβ⟩
  · rcases h' with h' | ⟨i', hi1', bx', c', hL', hβ'⟩
    · exact hb b h h'
    · exact box b (hK b h) i' bx' c' hL' hβ'
  · rcases h' with h' | ⟨i', hi1', bx', c', hL', hβ'⟩
    · exact box b (hK' b h') i bx c hL hβ
    · have := hr.hp.inj i i' b bx bx' c c' hL hL' hβ hβ'
      subst this
      exact hi i hi1 hi1'

theorem Trs_scal {w : World} {l : Lay} : ∀ (xs : List Value) (cs : List Value), VCs β S w (List.replicate xs.length l) (xs.map fun x => V.d (.c x)) cs → Trs w (List.replicate xs.length l) (xs.map D.c) cs []
  | [], cs, h => by
    simp only [List.map_nil, List.length_nil, List.replicate_zero, VCs, Trs] at h ⊢
    exact ⟨h.1, h.2, trivial⟩
  | x :: xs, cs, h => by
    simp only [List.map_cons, List.length_cons, List.replicate_succ, VCs, Trs] at h ⊢
    obtain ⟨f', fr', c1, c2, e, rfl, h3, h4, h5⟩ := h
    injection e with e1 e2
    subst e1; subst e2
    simp only [VC, DC] at h4
    refine ⟨l, _, c1, c2, [], [], rfl, rfl, h3, rfl, by simp, ?_, Trs_scal xs c2 h5⟩
    simp only [Tr]
    exact ⟨h4.1, h4.2, trivial⟩

mutual
theorem OwV_sound (hr : Rel C n f L a w β S) : ∀ {v : V} {d : D} {I K : List Nat}, OwV B C L v d I K → ∀ cs, VC β S w v cs → ∃ M, Tr w d cs M ∧ ∀ b ∈ M, Foot L β I K b
  | _, _, _, _, .c, cs, h => by
    simp only [VC, DC] at h
    exact ⟨[], by simp only [Tr]; exact ⟨h.1, h.2, trivial⟩, by simp⟩
  | _, _, _, _, .nil, cs, h => by
    simp only [VC, DC] at h
    exact ⟨[], by simp only [Tr]; exact .inl ⟨h.1, trivial, trivial⟩, by simp⟩
  | _, _, _, _, .raw (l := l) (cs := cs0) (K := K) h hl, cs, hv => by
    have := rawV_cells l cs0 cs hl hv
    subst this
    refine ⟨K, Tr_keep _ _ _ (fun b hb => hr.pres.block b (Tr_lt _ _ _ h.tr b hb) (h.dm b hb)) h.tr, fun b hb => .inl hb⟩
  | _, _, _, _, .agg k, cs, h => by
    simp only [VC] at h
    obtain ⟨M, h1, h2⟩ := OwVs_sound hr k cs h
    exact ⟨M, by simp only [Tr]; exact h1, h2⟩
  | _, _, _, _, .ref (l := l) (i := i) (bx := bx) (ds := ds) (I := I) (K := K) hL hbl hm k hni, cs, h => by
    simp only [VC] at h
    obtain ⟨hli, hbr⟩ := hr.hp.bx i bx hL
    subst hbl; subst hm
    have hlen : bx.es.length = ds.length := OwVs_length k
    rcases h with ⟨h1, h2, h3, h4⟩ | ⟨b, Cp, h1, h2, h3⟩
    · refine ⟨[], ?_, by simp⟩
      simp only [Tr]
      exact .inl ⟨h2, List.eq_nil_of_length_eq_zero (by omega), trivial⟩
    · rcases hbr with ⟨q1, _⟩ | ⟨b', C', cur, dsv, q1, q2, q3, q4, q5, q6⟩
      · rw [q1] at h1; cases h1
      · rw [q1] at h1
        injection h1 with h1; injection h1 with h1; injection h1 with h1 h1'
        subst h1; subst h1'
        obtain ⟨M, t1, t2⟩ := OwVs_sound hr k dsv q5
        have hap : b' ∉ M := fun hb => by
          have h1 := t2 b' hb
          refine Foot_apart (I := [i]) (K := []) (B := B) hr (by simp) (OwVs_K k) (by simpa using hni) (by simp) (.inr ⟨i, by simp, bx, C', hL, q1⟩) h1
        refine ⟨b' :: M, ?_, ?_⟩
        · simp only [Tr]
          refine .inr ⟨b', C', cur, bx.ty.t, dsv, M, rfl, hap, ?_, q2, q3, by omega, q4.2, by omega, by rw [← hlen]; exact t1, q6⟩
          rw [h2, hlen]
          simp
        · intro b hb
          rcases List.mem_cons.1 hb with rfl | hb
          · exact .inr ⟨i, by simp, bx, C', hL, q1⟩
          · rcases t2 b hb with h5 | ⟨i', h5, h6⟩
            · exact .inl h5
            · exact .inr ⟨i', by simp [h5], h6⟩
  | _, _, _, _, .flat (d := d) hf, cs, h => by
    simp only [VC] at h
    exact ⟨[], DC_flat d cs hf h, by simp⟩
  | _, _, _, _, .rawd (l := l) (cs := cs0) (K := K) h hl, cs, hv => by
    simp only [VC] at hv
    have := rawV_cells l cs0 cs hl ((rawD_DC (β := β) l cs0 cs).1 hv)
    subst this
    refine ⟨K, Tr_keep _ _ _ (fun b hb => hr.pres.block b (Tr_lt _ _ _ h.tr b hb) (h.dm b hb)) h.tr, fun b hb => .inl hb⟩
theorem OwVs_sound (hr : Rel C n f L a w β S) : ∀ {fs : List Lay} {vs : List V} {ds : List D} {I K : List Nat}, OwVs B C L fs vs ds I K → ∀ cs, VCs β S w fs vs cs → ∃ M, Trs w fs ds cs M ∧ ∀ b ∈ M, Foot L β I K b
  | _, _, _, _, _, .nil, cs, h => by
    simp only [VCs] at h
    exact ⟨[], by simp only [Trs]; exact ⟨trivial, h.2, trivial⟩, by simp⟩
  | _, _, _, _, _, .cons (I := I) (I' := I') (K := K) (K' := K') k1 k2 hi hb, cs, h => by
    simp only [VCs] at h
    obtain ⟨f', fr', c1, c2, e, rfl, h3, h4, h5⟩ := h
    injection e with e1 e2
    subst e1; subst e2
    obtain ⟨M1, t1, t2⟩ := OwV_sound hr k1 c1 h4
    obtain ⟨M2, t3, t4⟩ := OwVs_sound hr k2 c2 h5
    refine ⟨M1 ++ M2, ?_, ?_⟩
    · simp only [Trs]
      exact ⟨_, _, c1, c2, M1, M2, rfl, rfl, h3, rfl, fun b h1 h2 => Foot_apart hr (OwV_K k1) (OwVs_K k2) hi hb (t2 b h1) (t4 b h2), t1, t3⟩
    · intro b hm
      rcases List.mem_append.1 hm with hm | hm
      · rcases t2 b hm with h5 | ⟨i', h5, h6⟩
        · exact .inl (List.mem_append_left _ h5)
        · exact .inr ⟨i', List.mem_append_left _ h5, h6⟩
      · rcases t4 b hm with h5 | ⟨i', h5, h6⟩
        · exact .inl (List.mem_append_right _ h5)
        · exact .inr ⟨i', List.mem_append_right _ h5, h6⟩
  | _, _, _, _, _, .raws (l := l) (css := css) (K := K) h, cs, hv => by
    have := VCs_raws css cs h.each hv
    subst this
    refine ⟨K, ?_, fun b hb => .inl hb⟩
    rw [h.len]
    exact Trs_keep _ _ _ _ (fun b hb => hr.pres.block b (Trs_lt _ _ _ _ h.tr b hb) (h.dm b hb)) h.tr
  | _, _, _, _, _, .scal (l := l) (xs := xs), cs, hv => ⟨[], Trs_scal xs cs hv, by simp⟩
  | _, _, _, _, _, .flats (fs := fs) (ds := ds) hf, cs, hv => ⟨[], DCs_flat ds fs cs hf ((VCs_d ds fs cs).1 hv), by simp⟩
  | _, _, _, _, _, .rawds (l := l) (css := css) (K := K) h, cs, hv => by
    have := DCs_rawD css cs h.each ((VCs_d _ _ cs).1 hv)
    subst this
    refine ⟨K, ?_, fun b hb => .inl hb⟩
    rw [h.len]
    exact Trs_keep _ _ _ _ (fun b hb => hr.pres.block b (Trs_lt _ _ _ _ h.tr b hb) (h.dm b hb)) h.tr
theorem OwVs_length : ∀ {fs : List Lay} {vs : List V} {ds : List D} {I K : List Nat}, OwVs B C L fs vs ds I K → vs.length = ds.length
  | _, _, _, _, _, .nil => rfl
  | _, _, _, _, _, .cons _ h _ _ => by simp [OwVs_length h]
  | _, _, _, _, _, .raws h => by simp [h.len]
  | _, _, _, _, _, .scal => by simp
  | _, _, _, _, _, .flats _ => by simp
  | _, _, _, _, _, .rawds h => by simp [h.len]
end
end

/-- Where the body of a function of that kind may end. -/
def retO (fn : Func) (P : Program) (w0 : World) (r : D) (a : Act) (w' : World) : Prop :=
  a.defers = [] ∧ ∃ x, (results fn a.tmps).run P w' = .ok x w' ∧ ∃ M, Tr w' r x.cells.toList M ∧ r.isAgg = isAggV x ∧ (∀ b ∈ M, w0.heap.size ≤ b) ∧ Pres (fun _ => False) w0 w'
def retOQ (fn : Func) (P : Program) (w0 : World) (r : D) : AQ := fun e a w => ends e = true ∧ retO fn P w0 r a w

section
variable {P : Program} {C : Cx} {n : Nat} {f : Fr} {L : Hp}
theorem retO_fin {C0 : Cx} {fn : Func} {v : V} {r : D} {I K : List Nat} (hx : CExt C0 C) (hdm : ∀ b, ¬ C0.Dm b) (hrv : RetV P f L fn.results.toList [v]) (how : OwV C0.w0.heap.size C L v r I K) (hag : v.isAgg = r.isAgg) (hk : v.known = true) : Fin C n (retO fn P C0.w0 r) f L := by
  intro a w' β' S' hr
  have hr0 := hr.back hx
  obtain ⟨ys, hy, hall⟩ := RetV_run hr hrv
  have hrun := results_run (fn := fn) hy
  cases hall with
  | cons h1 h2 =>
    rename_i y ys
    cases h2
    rcases h1 with h1 | ⟨h1, h2⟩
    · rw [h1] at hk; cases hk
    · obtain ⟨M, t1, t2⟩ := OwV_sound hr how _ h1
      refine ⟨hr.df, y, by simpa using hrun, M, t1, by rw [← hag, h2], fun b hb => ?_, ⟨hr0.pres.os, hr0.pres.tape, hr0.pres.output, hr0.pres.size, fun b hb _ => hr0.pres.block b hb (hdm b)⟩⟩
      rcases t2 b hb with h5 | ⟨i, _, bx, c, hL, hβ⟩
      · exact (OwV_K how b h5).2.2
      · rcases hr0.own i bx b c hL hβ with h6 | h6
        · exact (hdm b h6).elim
        · exact h6

theorem fr0_rel {w : World} {S : Nat → Prop} {ds : List D} {xs : List Value} (hlen : ds.length ≤ n) (hS : ∀ b, S b → b < w.heap.size) (hd : All2 (RD S w) ds xs) :
    Rel ⟨w, fun _ => False, S⟩ n (fr0 ds) [] { tmps := xs.toArray ++ Array.replicate (n - xs.toArray.size) undef, defers := [] } w (fun _ => none) S := by
  have hxl : xs.length = ds.length := by
    clear hlen
    induction hd with
    | nil => rfl
    | cons _ _ ih => simp [ih]
  have hget : ∀ (ds : List D) (xs : List Value), All2 (RD S w) ds xs → ∀ (i : Nat) (d : D), ds[i]? = some d → ∃ x : Value, xs[i]? = some x ∧ RD S w d x := by
    intro ds xs h
    induction h with
    | nil => intro i d h; simp at h
    | cons h1 _ ih =>
      intro i d hi
      cases i with
      | zero => simp at hi; subst hi; exact ⟨_, rfl, h1⟩
      | succ i => simp at hi; simpa using ih i d hi
  refine ⟨rfl, ?_, fun i => ?_, ⟨?_, ?_, ?_, hS, fun _ _ => rfl, fun i bx q hi => by simp at hi⟩, ?_, fun b hb => .inl hb, fun b hb => hb, Pres.refl _ _⟩
  · simp; omega
  · show VR _ _ _ (match ds[i]? with | some d => V.d d | none => .any) _
    cases e : ds[i]? with
    | none => exact VR_any ..
    | some d =>
      obtain ⟨x, hx, hrd⟩ := hget ds xs hd i d e
      have : (xs.toArray ++ Array.replicate (n - xs.toArray.size) undef).getD i undef = x := by
        have hi := lt_of_get hx
        rw [Array.getD_eq_getD_getElem?, Array.getElem?_append_left (by simpa using hi), List.getElem?_toArray, hx]
        rfl
      simp only
      rw [this]
      exact VR0_of_RD hrd
  · intro i b h; simp at h
  · intro i j b bx bx' c c' h; simp at h
  · intro i bx b c h; simp at h
  · intro i bx b c h; simp at h

theorem OCall_of {k : FuncId} {fn : Func} {c : Code} {ds : List D} {r : D} (hf : P.funcs[k]? = some fn) (hb : fn.body = some c) (hn : fn.ntmps = n) (hlen : ds.length ≤ n) (h : ∀ C0, (∀ b, ¬ C0.Dm b) → CT P C0 → AC P C0 n c (retOQ fn P C0.w0 r) (fr0 ds) []) : OCall P k ds r := by
  intro w S xs hS hT hd
  refine calls_of_wp hf hb ?_
  subst hn
  refine wp_mono (h ⟨w, fun _ => False, S⟩ (fun _ h => h) (CT.start hT fun _ _ h => h) _ w _ S (fr0_rel hlen hS hd)) ?_
  rintro e a w' ⟨hend, h1, x, h2, M, h3, h4, h5, h6⟩
  have fin : a.defers = [] ∧ ∃ v, (results fn a.tmps).run P w' = .ok v w' ∧ ∃ x M, Ending.returned v = .returned x ∧ Tr w' r x.cells.toList M ∧ r.isAgg = isAggV x ∧ (∀ b ∈ M, w.heap.size ≤ b) ∧ Pres (fun _ => False) w w' :=
    ⟨h1, x, h2, x, M, rfl, h3, h4, h5, h6⟩
  cases e with
  | normal => exact fin
  | ret => exact fin
  | _ => cases hend

theorem reto_ok {C0 : Cx} {fn : Func} {v : V} {r : D} {I K : List Nat} (hx : CExt C0 C) (hdm : ∀ b, ¬ C0.Dm b) (hrv : RetV P f L fn.results.toList [v]) (how : OwV C0.w0.heap.size C L v r I K) (hag : v.isAgg = r.isAgg) (hk : v.known = true) : Fin C n (retOQ fn P C0.w0 r .ret) f L := fun a w β S hr => ⟨rfl, retO_fin hx hdm hrv how hag hk a w β S hr⟩
end

/-! ### Calls of that kind in a region that draws its order; loops and ways under contexts of their own -/
section
variable {P : Program} {C : Cx} {n : Nat} {ops : Array Oper} {Q : AQ} {f : Fr} {L : Hp} {dst : Option Tmp} {ty : TypeId} {pos : String} {after : Array Edge} {i : Nat} {r : List Nat}
/-- The same, handed out as raw data. -/
theorem AL_ocall0d {rest : List Oper} (hT : CT P C) {x : Operand} {args : Array Operand} {ts : Array TypeId} {k : FuncId} {ds : List D} {rr : D} (l : Lay) (hx : ev f x = .d (.fn k [])) (hc : Callable P k) (hp : OCall P k ds rr) (ha : args.toList.map (ev f) = ds.map V.d)
    (hl : rr.len? = l.len) (hla : l.ag = rr.isAgg) (hd : dstOk n dst = true) (h : ∀ C' cs K, Got C rr l C' cs K → AL P C' n ops rest Q (updo f dst (.d (rawD l cs))) L) : AL P C n ops (⟨dst, callV x args ts, ty, pos, after, none⟩ :: rest) Q f L := by
  intro a w β S hr
  refine wpList_plain rfl fun K hK => ?_
  have hv := rel_ev hr x
  rw [hx] at hv
  obtain ⟨xs, h1, h2⟩ := VR_fn hv
  unfold Oper.wp
  rw [call_run hc h1, Oper.upon_enter]
  have hall := (args_RD hr args.toList ds ha).append (caps_RD [] xs rfl h2)
  rw [List.append_nil] at hall
  have heq : (args.map a.eval ++ xs.toArray) = (args.toList.map a.eval ++ xs).toArray := by simp
  rw [heq]
  refine (hp w S _ hr.hp.fz (hT.tab hr) hall).mono ?_
  rintro e w' ⟨y, M, rfl, q1, q2, q3, q4⟩
  obtain ⟨C', hg, hr'⟩ := got_of hr q4 q1 q3 hl ((hr.called0 q4).puto (dstOk_spec hd) (rawD_VR (raw_VR q1 q2 hl hla)))
  exact hK _ _ (h C' _ M hg _ _ _ _ hr')
theorem DT_ocall0d (hT : CT P C) {x : Operand} {args : Array Operand} {ts : Array TypeId} {k : FuncId} {ds : List D} {rr : D} (l : Lay) (ho : ops[i]? = some ⟨dst, callV x args ts, ty, pos, after, none⟩) (hx : ev f x = .d (.fn k [])) (hc : Callable P k) (hp : OCall P k ds rr) (ha : args.toList.map (ev f) = ds.map V.d)
    (hl : rr.len? = l.len) (hla : l.ag = rr.isAgg) (hd : dstOk n dst = true) (hr : (r.all fun j => (lookM (masks ops (i :: r) []) j).testBit i) = true) (h : ∀ C' cs K, Got C rr l C' cs K → DT P n ops C' Q r (updo f dst (.d (rawD l cs))) L) : DT P n ops C Q (i :: r) f L := by
  refine .e (Z := fun C' v => ∃ cs K, Got C rr l C' cs K ∧ v = .d (rawD l cs)) ho rfl ?_ hr (fun C' v ⟨cs, K, hg, _⟩ hT => hT.ext hg.ext) fun C' v ⟨cs, K, hg, hv⟩ => by subst hv; exact h C' cs K hg
  intro f' hf L' a w β S hr K Qc hK
  have hev := ev_looks hf
  refine runOr_none rfl ?_
  have hx' : ev f' x = .d (.fn k []) := (hev x (by simp [Op.operands, Call.operands])).trans hx
  have ha' : args.toList.map (ev f') = ds.map V.d := by
    rw [maps_congr fun y hy => hev y (by simp [Op.operands, Call.operands]; exact .inr (by simpa using hy))]
    exact ha
  have hv := rel_ev hr x
  rw [hx'] at hv
  obtain ⟨xs, h1, h2⟩ := VR_fn hv
  unfold Oper.wp
  rw [call_run hc h1, Oper.upon_enter]
  have hall := (args_RD hr args.toList ds ha').append (caps_RD [] xs rfl h2)
  rw [List.append_nil] at hall
  have heq : (args.map a.eval ++ xs.toArray) = (args.toList.map a.eval ++ xs).toArray := by simp
  rw [heq]
  refine (hp w S _ hr.hp.fz (hT.tab hr) hall).mono ?_
  rintro e w' ⟨y, M, rfl, q1, q2, q3, q4⟩
  obtain ⟨C', hg, hr'⟩ := got_of hr q4 q1 q3 hl ((hr.called0 q4).puto (dstOk_spec hd) (rawD_VR (raw_VR q1 q2 hl hla)))
  exact hK C' _ _ _ _ _ ⟨_, M, hg, rfl⟩ hr'

theorem enterX {ks : List Nat} {g : Fr} {St : Type} {mods : St → List (Nat × V)} {Lf : St → Hp} {Inv : Cx → St → Prop} (st : St) (src : List (Option Nat)) (hlen : src.length = (Lf st).length) (hnd : nodupS src = true) (hI : Inv C st)
    (hb : BxTo L src 0 (Lf st)) (hs : SlTo L src f (mods st ++ ks.map fun k => (k, g k))) : Fin C n (Held n fun C' f' L' => ∃ st, Inv C' st ∧ f' = FS ks g (mods st) ∧ L' = Lf st) f L := fun a w β S hr =>
  let ⟨f', L', β', S', hr', h1, h2⟩ := enterS src hlen hnd hb hs a w β S hr; ⟨C, f', L', β', S', hr', st, hI, h1, h2⟩
theorem closeX {ks : List Nat} {g : Fr} {St : Type} {mods : St → List (Nat × V)} {Lf : St → Hp} {μ : St → Nat} {Inv : Cx → St → Prop} {st : St} (st' : St) (src : List (Option Nat)) (hlen : src.length = (Lf st').length) (hnd : nodupS src = true) (hμ : μ st' < μ st) (hI : Inv C st')
    (hb : BxTo L src 0 (Lf st')) (hs : SlTo L src f (mods st' ++ ks.map fun k => (k, g k))) : Fin C n (Held n fun C' f' L' => ∃ st', μ st' < μ st ∧ Inv C' st' ∧ f' = FS ks g (mods st') ∧ L' = Lf st') f L := fun a w β S hr =>
  let ⟨f', L', β', S', hr', h1, h2⟩ := enterS src hlen hnd hb hs a w β S hr; ⟨C, f', L', β', S', hr', st', hμ, hI, h1, h2⟩
end

end Go.Eng

/- The engine: structs written out. -/
set_option linter.unusedVariables false
set_option linter.unusedSimpArgs false
namespace Go.Eng

/-- Where the parts of a struct lie. -/
def tyPlaces (P : Program) (t : TypeId) : Option (List (Nat × Nat)) := match P.underlying t with
  | some (.struct fs) => fs.toList.mapM (fun fd => (tySize P fd.type).map fun z => (fd.offset, z))
  | _ => none
def layPlaces : Nat → List Lay → List (Nat × Nat)
  | _, [] => []
  | o, f :: fr => (o, f.len) :: layPlaces (o + f.len) fr
theorem layPlaces_get : ∀ (fs : List Lay) (o j : Nat) (l : Lay), fs[j]? = some l → (layPlaces o fs)[j]? = some (o + Lay.lens (fs.take j), l.len)
  | [], o, j, l, h => by simp at h
  | f :: fr, o, 0, l, h => by simp at h; subst h; simp [layPlaces, Lay.lens]
  | f :: fr, o, j + 1, l, h => by
    simp at h
    have := layPlaces_get fr (o + f.len) j l h
    simp [layPlaces, this, Lay.lens, Nat.add_assoc]

section
variable {P : Program} {C : Cx} {n : Nat} {f : Fr} {L : Hp} {dst : Option Tmp} {ty : TypeId} {pos : String} {after : Array Edge} {g : Option (Nat × Bool)}

theorem places_run {t : TypeId} {fields : Array Go.Field} : ∀ {l : List Go.Field} {pl : List (Nat × Nat)}, l.mapM (fun fd => (tySize P fd.type).map fun z => (fd.offset, z)) = some pl → ∀ w, (l.mapM (fun fd => (do pure (fd.offset, ← sizeOf fd.type) : Sem (Nat × Nat)))).run P w = .ok pl w
  | [], pl, h, w => by
    simp only [List.mapM_nil, Option.pure_def, Option.some.injEq] at h
    subst h; rfl
  | fd :: l, pl, h, w => by
    simp only [List.mapM_cons, Option.bind_eq_bind, Option.pure_def, Option.bind_eq_some_iff] at h
    obtain ⟨q, hq, pl', hpl, h⟩ := h
    obtain ⟨z, hz, rfl⟩ := Option.map_eq_some_iff.1 hq
    injection h with h
    subst h
    have := places_run (t := t) (fields := fields) hpl w
    simp only [List.mapM_cons, Sem.run_bind, run_sizeOf' hz, Result.andThen, Sem.run_pure, this]

/-- Parts put into their places, one after another. -/
inductive BS (f : Fr) (fs : List Lay) : List V → List (Nat × Operand) → List V → Prop
  | nil {vs : List V} : BS f fs vs [] vs
  | cons {j : Nat} {x : Operand} {v : V} {l : Lay} {vs vs' : List V} {r : List (Nat × Operand)} : nfV (ev f x) = some v → fs[j]? = some l → v.len? = l.len → BS f fs (vs.set j v) r vs' → BS f fs vs ((j, x) :: r) vs'

theorem nfV_known {v u : V} (h : nfV v = some u) : u.known = true := by
  cases v <;> simp only [nfV, Option.some.injEq] at h <;> first | (subst h; rfl) | cases h

theorem BS_fill {a : Act} {w : World} {β : Beta} {S : Nat → Prop} (hr : Rel C n f L a w β S) {fs : List Lay} : ∀ {vs : List V} {ps : List (Nat × Operand)} {vs' : List V}, BS f fs vs ps vs' → ∀ cells : Array Value, VCs β S w fs vs cells.toList →
    ∃ cells', Instr.fill (fun i => (layPlaces 0 fs)[i]?) cells (ps.map fun q => (q.1, a.eval q.2)) = some cells' ∧ VCs β S w fs vs' cells'.toList
  | _, _, _, .nil, cells, h => ⟨cells, rfl, h⟩
  | _, _, _, .cons (j := j) (x := x) (v := v) (l := l) (vs := vs) hv hl hlen k, cells, h => by
    have hk := nfV_known hv
    have hv := nf hv
    have hvr := rel_ev hr x
    rw [hv] at hvr
    have hne : v ≠ .any := by rintro rfl; cases hk
    have hv0 := known_VR0 hvr hk
    rcases hv0 with hv0 | ⟨hv0, _⟩
    · exact absurd hv0 hne
    · have hcl := (VC_len hne hv0).trans hlen
      have hjl : j < vs.length := by
        have := VCs_len _ _ _ h
        have := lt_of_get hl
        omega
      obtain ⟨d1, dm, d3, e1, e2, e3, e4, e5⟩ := VCs_get vs fs cells.toList j l vs[j] h hl (by simp [hjl])
      have hnew := e5 v _ hv0 hcl
      simp only [List.map_cons, Instr.fill, layPlaces_get fs 0 j l hl]
      have hsz : cells.size = d1.length + dm.length + d3.length := by rw [← Array.length_toList, e1]; simp; omega
      have hcs : (a.eval x).cells.size = l.len := by simpa using hcl
      have hno : ¬ ((a.eval x).cells.size ≠ l.len ∨ 0 + Lay.lens (fs.take j) + (a.eval x).cells.size > cells.size) := by
        rintro (h1 | h1)
        · exact h1 hcs
        · rw [hsz, hcs, e2, e3] at h1; omega
      rw [if_neg (by simpa using hno)]
      have hf : ((a.eval x).cells.zipIdx.foldl (fun (cs : Array Value) (q : Value × Nat) => cs.setIfInBounds (0 + Lay.lens (fs.take j) + q.2) q.1) cells).toList = d1 ++ (a.eval x).cells.toList ++ d3 := by
        have := foldl_put (0 + Lay.lens (fs.take j)) (a.eval x).cells.toList 0 cells (by rw [hcl, hsz, e2, e3]; omega)
        rw [← Array.foldl_toList, Array.toList_zipIdx]
        simp only [Nat.add_zero] at this
        rw [this, e1]
        have t1 : (d1 ++ dm ++ d3).take (0 + Lay.lens (fs.take j)) = d1 := by
          rw [Nat.zero_add, ← e2, List.append_assoc, List.take_left']
          rfl
        have t2 : (d1 ++ dm ++ d3).drop (0 + Lay.lens (fs.take j) + (a.eval x).cells.toList.length) = d3 := by
          rw [Nat.zero_add, hcl, ← e2, ← e3, ← List.length_append]
          exact List.drop_left' rfl
        rw [t1, t2]
      obtain ⟨cells', q1, q2⟩ := BS_fill hr k _ (by rw [hf]; exact hnew)
      exact ⟨cells', q1, q2⟩

theorem Ev_build {t : TypeId} {parts : Array (Nat × Operand)} {fs : List Lay} {zs : List D} {z : Value} {vs : List V} (hz : tyZero P t = some (some z)) (hzc : cellsDs fs zs = some z.cells.toList) (hp : tyPlaces P t = some (layPlaces 0 fs)) (hb : BS f fs (zs.map V.d) parts.toList vs) :
    Ev P C n ⟨dst, .build t parts, ty, pos, after, g⟩ f L (.agg fs vs) := by
  intro a w β S hr
  have h0 : VCs β S w fs (zs.map V.d) z.cells.toList := by
    have := VC_cells (β := β) (S := S) (w := w) (x := .agg fs zs) (cs := z.cells.toList) (by simpa only [cellsD] using hzc)
    simp only [VC, DC] at this
    have key : ∀ (zs : List D) (fs : List Lay) (cs : List Value), DCs S w fs zs cs → VCs β S w fs (zs.map V.d) cs := by
      intro zs
      induction zs with
      | nil => intro fs cs h; simpa only [List.map_nil, DCs, VCs] using h
      | cons d zs ih =>
        intro fs cs h
        simp only [List.map_cons, DCs, VCs, VC] at h ⊢
        obtain ⟨f, fr, c1, c2, h1, h2, h3, h4, h5⟩ := h
        exact ⟨f, fr, c1, c2, h1, h2, h3, h4, ih fr c2 h5⟩
    exact key zs fs _ this
  obtain ⟨cells', q1, q2⟩ := BS_fill hr hb z.cells h0
  unfold tyPlaces at hp
  split at hp
  · rename_i fields hu
    have hpl := places_run (P := P) (t := t) (fields := fields) hp w
    have hrun : (execOp a.eval ⟨dst, .build t parts, ty, pos, after, g⟩).run P w = .ok (.value (.agg cells')) w := by
      have hm : (fields.mapM (fun fd => (do pure (fd.offset, ← sizeOf fd.type) : Sem (Nat × Nat)))).run P w = .ok (layPlaces 0 fs).toArray w := by
        rw [Array.mapM_eq_mapM_toList, map_eq_pure_bind]
        simp only [Sem.run_bind, hpl, Result.andThen, Sem.run_pure]
      have hfill : Instr.fill (fun i => (layPlaces 0 fs).toArray[i]?) z.cells (parts.map fun (i, x) => (i, a.eval x)).toList = some cells' := by
        rw [Array.toList_map]
        simpa using q1
      simp only [execOp, Instr.build, Sem.run_bind, zeroValue_run hz, run_underlying hu, Result.andThen, hm, Sem.run_pure]
      rw [hfill]
      rfl
    refine ⟨_, hrun, .inr ⟨?_, rfl⟩⟩
    simp only [VC]
    exact q2
  · cases hp
end
end Go.Eng

/- The engine: functions that take a list of their own and hand one out. -/
set_option linter.unusedVariables false
set_option linter.unusedSimpArgs false
namespace Go.Eng

abbrev β1 (o : Option (Nat × Nat)) : Beta := fun i => if i = 0 then some o else none
/-- A slice value over a block of its own (or nil). -/
structure LB (S : Nat → Prop) (w : World) (e : TypeId) (l : Lay) (xs : List D) (x : Value) (o : Option (Nat × Nat)) : Prop where
  bx : BoxR (β1 o) S w 0 ⟨e, l, xs.map V.d⟩
  vc : VC (β1 o) S w (.ref l 0 0 xs.length) [x]
  own : ∀ b c, o = some (b, c) → ¬ S b

def BCall (P : Program) (k : FuncId) (pre : List D) (e : TypeId) (l : Lay) (xs : List D) (suf : List D) (ys : List D) : Prop :=
  ∀ (w : World) (S : Nat → Prop) (pv : List Value) (x : Value) (sv : List Value) (o : Option (Nat × Nat)), (∀ b, S b → b < w.heap.size) → Tab P S w → All2 (RD S w) pre pv → All2 (RD S w) suf sv → LB S w e l xs x o →
    Calls P k (pv ++ x :: sv).toArray w fun en w' => ∃ y S' o', en = .returned y ∧ LB S' w' e l ys y o' ∧ (∀ b c, o' = some (b, c) → (∃ c0, o = some (b, c0)) ∨ w.heap.size ≤ b) ∧ (∀ b, S b → S' b) ∧ (∀ b, S' b → b < w'.heap.size ∧ (S b ∨ w.heap.size ≤ b ∨ ∃ c, o = some (b, c))) ∧
      Pres (fun b => ∃ c, o = some (b, c)) w w'

theorem VCs_data {β β' : Beta} {S : Nat → Prop} {w : World} : ∀ (xs : List D) (fs : List Lay) (cs : List Value), VCs β S w fs (xs.map V.d) cs → VCs β' S w fs (xs.map V.d) cs
  | [], fs, cs, h => by simpa only [List.map_nil, VCs] using h
  | x :: xs, fs, cs, h => by
    simp only [List.map_cons, VCs, VC] at h ⊢
    obtain ⟨f, fr, c1, c2, h1, h2, h3, h4, h5⟩ := h
    exact ⟨f, fr, c1, c2, h1, h2, h3, h4, VCs_data xs fr c2 h5⟩
theorem VCs_dc {β : Beta} {S : Nat → Prop} {w : World} : ∀ (xs : List D) (fs : List Lay) (cs : List Value), VCs β S w fs (xs.map V.d) cs ↔ DCs S w fs xs cs
  | [], fs, cs => by simp only [List.map_nil, VCs, DCs]
  | x :: xs, fs, cs => by
    simp only [List.map_cons, VCs, VC, DCs]
    constructor
    · rintro ⟨f, fr, c1, c2, h1, h2, h3, h4, h5⟩
      exact ⟨f, fr, c1, c2, h1, h2, h3, h4, (VCs_dc xs fr c2).1 h5⟩
    · rintro ⟨f, fr, c1, c2, h1, h2, h3, h4, h5⟩
      exact ⟨f, fr, c1, c2, h1, h2, h3, h4, (VCs_dc xs fr c2).2 h5⟩
/-- A box of data seen under another name. -/
theorem BoxR_name {β β' : Beta} {S : Nat → Prop} {w : World} {i j : Nat} {e : TypeId} {l : Lay} {xs : List D} (h : BoxR β S w i ⟨e, l, xs.map V.d⟩) (hb : β' j = β i) : BoxR β' S w j ⟨e, l, xs.map V.d⟩ := by
  obtain ⟨h0, h⟩ := h
  refine ⟨h0, ?_⟩
  rcases h with ⟨h1, h2⟩ | ⟨b, Cp, cur, ds, h1, h2, h3, h4, h5, h6⟩
  · exact .inl ⟨hb.trans h1, h2⟩
  · exact .inr ⟨b, Cp, cur, ds, hb.trans h1, h2, h3, h4, VCs_data _ _ _ h5, h6⟩
theorem VC_name {β β' : Beta} {S S' : Nat → Prop} {w w' : World} {i j : Nat} {l : Lay} {m : Nat} {cs : List Value} (h : VC β S w (.ref l i 0 m) cs) (hb : β' j = β i) : VC β' S' w' (.ref l j 0 m) cs := by
  simp only [VC] at h ⊢
  rw [hb]
  exact h

section
variable {P : Program} {C : Cx} {n : Nat} {f : Fr} {L : Hp} {Q : AQ} {ops : Array Oper} {rest : List Oper} {dst : Option Tmp} {ty : TypeId} {pos : String} {after : Array Edge}

theorem Rel.bcall {a : Act} {w w' : World} {β : Beta} {S S' : Nat → Prop} (h : Rel C n f L a w β S) {i : Nat} {bx bx' : Box} {o o' : Option (Nat × Nat)} (hL : L[i]? = some (some bx)) (hβ : β i = some o) (hp : Pres (fun b => ∃ c, o = some (b, c)) w w')
    (ho : ∀ b c, o' = some (b, c) → (∃ c', o = some (b, c')) ∨ w.heap.size ≤ b) (hns : ∀ b c, o' = some (b, c) → ¬ S' b) (su : ∀ b, S b → S' b) (hS : ∀ b, S' b → b < w'.heap.size ∧ (S b ∨ w.heap.size ≤ b ∨ ∃ c, o = some (b, c)))
    (hbx : ∀ β' : Beta, β' L.length = some o' → BoxR β' S' w' L.length bx') (hna : bx'.ty.ad = none := by rfl) : Rel C n f (L.set i none ++ [some bx']) a w' (setβ β L.length o') S' := by
  have hi : i < L.length := lt_of_get hL
  have old : ∀ b, b < w.heap.size → (∀ c, β i ≠ some (some (b, c))) → w'.heap[b]? = w.heap[b]? := fun b hb hne => hp.block b hb (fun ⟨c, hc⟩ => hne c (by rw [hβ, hc]))
  have lat : Later β S w (setβ β L.length o') S' w' := by
    refine ⟨fun j oo hj => ?_, su, fun b hb => old b (h.hp.fz b hb) fun c hc => h.hp.own i bx b c hL hc hb⟩
    by_cases e : j = L.length
    · subst e; rw [h.hp.un _ (Nat.le_refl _)] at hj; cases hj
    · rw [setβ_ne _ _ e]; exact hj
  have cases_ : ∀ j b, (L.set i none ++ [some bx'])[j]? = some (some b) → (j < L.length ∧ j ≠ i ∧ L[j]? = some (some b)) ∨ (j = L.length ∧ bx' = b) := fun j b hj => by
    rcases get_snoc _ _ _ _ hj with ⟨h1, h2⟩ | ⟨h1, h2⟩
    · rw [List.getElem?_set] at h2
      by_cases e : i = j
      · subst e
        rw [if_pos rfl, if_pos hi] at h2
        cases h2
      · rw [if_neg e] at h2
        exact .inl ⟨by simpa using h1, fun h => e h.symm, h2⟩
    · exact .inr ⟨by simpa using h1, by injection h2⟩
  have newb : ∀ b c, o' = some (b, c) → ∀ j, j < L.length → j ≠ i → ∀ bj cj, L[j]? = some (some bj) → β j ≠ some (some (b, cj)) := fun b c hob j hj hne bj cj hLj hbj => by
    rcases ho b c hob with ⟨c', hc'⟩ | hb
    · exact hne (h.hp.inj j i b bj bx cj c' hLj hL hbj (by rw [hβ, hc']))
    · have := (h.hp.bx j bj hLj).lt hbj
      omega
  refine h.later lat ⟨?_, ?_, ?_, ?_, ?_, ?_⟩ ?_ ?_ ?_
  · intro j b hj
    rcases cases_ j b hj with ⟨h1, h2, h3⟩ | ⟨rfl, rfl⟩
    · exact BoxR_later lat (fun b' c hb => old b' ((h.hp.bx j b h3).lt hb) fun c' hc' => h2 (h.hp.inj j i b' b bx c c' h3 hL hb hc')) (h.hp.bx j b h3)
    · exact hbx _ (setβ_self _ _ _)
  · intro j j' b b1 b2 c c' hj hj' hbj hbj'
    rcases cases_ j _ hj with ⟨h1, h2, h3⟩ | ⟨rfl, _⟩ <;> rcases cases_ j' _ hj' with ⟨k1, k2, k3⟩ | ⟨rfl, _⟩
    · rw [setβ_ne _ _ (by omega)] at hbj hbj'
      exact h.hp.inj j j' b b1 b2 c c' h3 k3 hbj hbj'
    · rw [setβ_ne _ _ (by omega)] at hbj
      rw [setβ_self] at hbj'
      injection hbj' with hbj'
      exact absurd hbj (newb b c' hbj' j h1 h2 _ _ h3)
    · rw [setβ_ne _ _ (by omega)] at hbj'
      rw [setβ_self] at hbj
      injection hbj with hbj
      exact absurd hbj' (newb b c hbj j' k1 k2 _ _ k3)
    · rfl
  · intro j b1 b c hj hbj hs
    rcases cases_ j _ hj with ⟨h1, h2, h3⟩ | ⟨rfl, _⟩
    · rw [setβ_ne _ _ (by omega)] at hbj
      rcases (hS b hs).2 with h4 | h4 | ⟨c4, h4⟩
      · exact h.hp.own j b1 b c h3 hbj h4
      · have := (h.hp.bx j b1 h3).lt hbj; omega
      · exact h2 (h.hp.inj j i b b1 bx c c4 h3 hL hbj (by rw [hβ, h4]))
    · rw [setβ_self] at hbj
      injection hbj with hbj
      exact hns b c hbj hs
  · intro b hb
    exact (hS b hb).1
  · intro j hj
    simp at hj
    rw [setβ_ne _ _ (by omega)]
    exact h.hp.un j (by omega)
  · intro j b1 q hj hq
    rcases cases_ j _ hj with ⟨h1, h2, h3⟩ | ⟨rfl, rfl⟩
    · rw [setβ_ne _ _ (by omega)]
      exact h.hp.ad j b1 q h3 hq
    · rw [hna] at hq; cases hq
  · intro j b1 b c hj hbj
    rcases cases_ j _ hj with ⟨h1, h2, h3⟩ | ⟨rfl, _⟩
    · rw [setβ_ne _ _ (by omega)] at hbj
      exact h.own j b1 b c h3 hbj
    · rw [setβ_self] at hbj
      injection hbj with hbj
      rcases ho b c hbj with ⟨c', hc'⟩ | hb
      · exact h.own i bx b c' hL (by rw [hβ, hc'])
      · have := h.pres.size
        exact .inr (by omega)
  · intro b hb
    rcases (hS b hb).2 with h1 | h1 | ⟨c1, h1⟩
    · exact h.fz b h1
    · have := h.pres.size
      exact .inr (.inl (by omega))
    · exact .inr (h.own i bx b c1 hL (by rw [hβ, h1])).symm
  · refine ⟨hp.os.trans h.pres.os, hp.tape.trans h.pres.tape, hp.output.trans h.pres.output, by have := h.pres.size; have := hp.size; omega, fun b hb hd => ?_⟩
    have hsz := h.pres.size
    refine (old b (by omega) fun c hc => ?_).trans (h.pres.block b hb hd)
    rcases h.own i bx b c hL hc with h1 | h1
    · exact hd h1
    · omega

end

/-- Where the body of a function of that kind may end. -/
def retB (fn : Func) (P : Program) (w0 : World) (S0 : Nat → Prop) (o : Option (Nat × Nat)) (e : TypeId) (l : Lay) (ys : List D) (a : Act) (w' : World) : Prop :=
  a.defers = [] ∧ ∃ y, (results fn a.tmps).run P w' = .ok y w' ∧ ∃ S' o', LB S' w' e l ys y o' ∧ (∀ b c, o' = some (b, c) → (∃ c0, o = some (b, c0)) ∨ w0.heap.size ≤ b) ∧ (∀ b, S0 b → S' b) ∧ (∀ b, S' b → b < w'.heap.size ∧ (S0 b ∨ w0.heap.size ≤ b ∨ ∃ c, o = some (b, c))) ∧
      Pres (fun b => ∃ c, o = some (b, c)) w0 w'
def retBQ (fn : Func) (P : Program) (w0 : World) (S0 : Nat → Prop) (o : Option (Nat × Nat)) (e : TypeId) (l : Lay) (ys : List D) : AQ := fun x a w => ends x = true ∧ retB fn P w0 S0 o e l ys a w

section
variable {P : Program} {C : Cx} {n : Nat} {f : Fr} {L : Hp}
/-- The frame at the start: data, the list, data. -/
def frB (pre : List D) (l : Lay) (m : Nat) (suf : List D) : Fr := fun i => match (pre.map V.d ++ V.ref l 0 0 m :: suf.map V.d)[i]? with | some v => v | none => .any

end

theorem Vw_refe {L : Hp} {src : List (Option Nat)} {l : Lay} {i j off m m' : Nat} (hs : srcOf src j = some i) (h : m = m') : Vw L src (.ref l i off m) (.ref l j off m') := by subst h; exact .ref hs
def ints (xs : List Int) : List D := xs.map fun n => .c (.int .i64 n)
@[simp] theorem ints_length (xs : List Int) : (ints xs).length = xs.length := by simp [ints]
theorem ints_get {xs : List Int} {i : Nat} {n : Int} (h : xs[i]? = some n) : (ints xs)[i]? = some (.c (.int .i64 n)) := by simp [ints, h]
def strs (xs : List ByteArray) : List D := xs.map fun s => .c (.string s)
@[simp] theorem strs_length (xs : List ByteArray) : (strs xs).length = xs.length := by simp [strs]
theorem strs_get {xs : List ByteArray} {i : Nat} {s : ByteArray} (h : xs[i]? = some s) : (strs xs)[i]? = some (.c (.string s)) := by simp [strs, h]
end Go.Eng

/- The engine: calls that only read what a state owns; calls that mark trees in place. -/
set_option linter.unusedVariables false
set_option linter.unusedSimpArgs false
namespace Go.Eng

/-- What a value reads as while nobody writes. -/
inductive RdA (C : Cx) (L : Hp) : V → D → Prop
  | rd {v : V} {d : D} : Reads L (fun _ => True) v d → RdA C L v d
  | raw {B : Nat} {l : Lay} {d : D} {cs : List Value} {K : List Nat} : Has B C d cs K → cs.length = l.len → l.ag = d.isAgg → RdA C L (rawV l cs) d

section
variable {P : Program} {C : Cx} {n : Nat} {f : Fr} {L : Hp} {Q : AQ} {ops : Array Oper} {rest : List Oper} {dst : Option Tmp} {ty : TypeId} {pos : String} {after : Array Edge} {i : Nat} {r : List Nat}

theorem qcall_wp (hT : CT P C) {x : Operand} {args : Array Operand} {ts : Array TypeId} {k : FuncId} {ds : List D} {y : Value} {a : Act} {w : World} {β : Beta} {S : Nat → Prop} (hr : Rel C n f L a w β S) (hx : ev f x = .d (.fn k [])) (hc : Callable P k) (hp : PCall P k ds (· = [.c y]))
    (hall : All2 (RD (fun b => b < w.heap.size) w) ds (args.toList.map a.eval)) (hd : dstOk n dst = true) (K : Act → World → Prop) (Qc : Exit → Act → World → Prop) (hK : ∀ a' w' β' S', Rel C n (updo f dst (.d (.c y))) L a' w' β' S' → K a' w') :
    Oper.wp P ⟨dst, callV x args ts, ty, pos, after, none⟩ a w K Qc := by
  have hv := rel_ev hr x
  rw [hx] at hv
  obtain ⟨cv, c1, c2⟩ := VR_fn hv
  have hcv : cv = [] := by
    have := (DCs_len _ _ _ c2).1
    simpa [Lay.lens] using this
  subst hcv
  unfold Oper.wp
  rw [call_run hc c1, Oper.upon_enter]
  have heq : (args.map a.eval ++ ([] : List Value).toArray) = (args.toList.map a.eval).toArray := by
    rw [← Array.toList_map]
    exact Array.append_empty.trans (Array.toArray_toList).symm
  rw [heq]
  refine (hp w _ _ (fun b hb => hb) ((hT.tab hr).mono hr.hp.fz) hall).mono ?_
  rintro e w' ⟨z, rs, S', rfl, rfl, q2, q3, q4, q5⟩
  have hr' := hr.called0 q5
  refine hK _ _ _ _ (hr'.puto (dstOk_spec hd) ?_)
  have q2 : RD S' w' (.c y) z := q2
  have := VR0_of_RD (β := β) q2
  have := (VR0_c.1 this)
  exact VR_c.2 this

/-! ### Marks -/
/-- A function that writes into a tree in place. -/
def MCall (P : Program) (k : FuncId) (d : D) (m : Int) (d' : D) (m' : Int) : Prop :=
  ∀ (w : World) (x : Value) (K : List Nat), Tr w d x.cells.toList K → d.isAgg = isAggV x → Calls P k #[x, .int .i64 m] w fun e w' => e = .returned (.int .i64 m') ∧ Tr w' d' x.cells.toList K ∧ Pres (fun b => b ∈ K) w w'

/-- What a mark has left. -/
structure Mk (C : Cx) (K : List Nat) (C' : Cx) : Prop where
  pres : Pres (fun b => C.Dm b ∨ b ∈ K) C.w0 C'.w0
  dm : ∀ b, C'.Dm b → C.Dm b ∨ C.w0.heap.size ≤ b
  s0 : ∀ b, C.S0 b → C'.S0 b
  fz : ∀ b, C'.S0 b → C.S0 b ∨ C.w0.heap.size ≤ b ∨ C.Dm b
theorem Has.marked {B : Nat} {C C' : Cx} {d : D} {cs : List Value} {K K' : List Nat} (k : Has B C d cs K) (h : Mk C K' C') (hd : ∀ b ∈ K, b ∉ K') : Has B C' d cs K := by
  have hlt := Tr_lt _ _ _ k.tr
  refine ⟨Tr_keep _ _ _ (fun b hb => h.pres.block b (hlt b hb) fun h1 => h1.elim (k.dm b hb) (hd b hb)) k.tr, fun b hb h1 => ?_, fun b hb h1 => ?_, k.lo⟩
  · rcases h.dm b h1 with h2 | h2
    · exact k.dm b hb h2
    · have := hlt b hb; omega
  · rcases h.fz b h1 with h2 | h2 | h2
    · exact k.s0 b hb h2
    · have := hlt b hb; omega
    · exact k.dm b hb h2
theorem HasL.marked {B : Nat} {C C' : Cx} {l : Lay} {css : List (List Value)} {ds : List D} {K K' : List Nat} (k : HasL B C l css ds K) (h : Mk C K' C') (hd : ∀ b ∈ K, b ∉ K') : HasL B C' l css ds K := by
  have hlt := Trs_lt _ _ _ _ k.tr
  refine ⟨Trs_keep _ _ _ _ (fun b hb => h.pres.block b (hlt b hb) fun h1 => h1.elim (k.dm b hb) (hd b hb)) k.tr, k.len, k.each, fun b hb h1 => ?_, fun b hb h1 => ?_, k.lo⟩
  · rcases h.dm b h1 with h2 | h2
    · exact k.dm b hb h2
    · have := hlt b hb; omega
  · rcases h.fz b h1 with h2 | h2 | h2
    · exact k.s0 b hb h2
    · have := hlt b hb; omega
    · exact k.dm b hb h2
theorem CExt.marked {C0 C C' : Cx} {K : List Nat} (h : CExt C0 C) (k : Mk C K C') (hK : ∀ b ∈ K, C0.Dm b ∨ C0.w0.heap.size ≤ b) : CExt C0 C' := by
  have hs := h.pres.size
  refine ⟨⟨k.pres.os.trans h.pres.os, k.pres.tape.trans h.pres.tape, k.pres.output.trans h.pres.output, Nat.le_trans hs k.pres.size, fun b hb hd => ?_⟩, ?_, fun b hb => k.s0 b (h.s0 b hb), ?_⟩
  · rw [k.pres.block b (by omega) (fun h1 => by
      rcases h1 with h1 | h1
      · rcases h.dm b h1 with h2 | h2
        · exact hd h2
        · omega
      · rcases hK b h1 with h2 | h2
        · exact hd h2
        · omega)]
    exact h.pres.block b hb hd
  · intro b hb
    rcases k.dm b hb with h1 | h1
    · exact h.dm b h1
    · exact .inr (by omega)
  · intro b hb
    rcases k.fz b hb with h1 | h1 | h1
    · exact h.fz b h1
    · exact .inr (.inl (by omega))
    · rcases h.dm b h1 with h2 | h2
      · exact .inr (.inr h2)
      · exact .inr (.inl h2)

end
end Go.Eng

/- The engine: reading and writing a block by its address; the start and the end of a function that marks. -/
set_option linter.unusedVariables false
set_option linter.unusedSimpArgs false
namespace Go.Eng

/-- A block that the context leaves alone, and what it holds. -/
structure Blk (C : Cx) (b : Nat) (cur : List Value) (ty : TypeId) : Prop where
  hp : C.w0.heap[b]? = some (.cells cur.toArray ty (0, 0))
  dm : ¬ C.Dm b
  s0 : ¬ C.S0 b
abbrev rawS (b n c : Nat) : Value := .slice (some ⟨b, 0, none⟩) n c
abbrev rawP (b o : Nat) : V := .d (.c (.pointer (some ⟨b, o, none⟩)))

theorem Blk.lt {C : Cx} {b : Nat} {cur : List Value} {ty : TypeId} (h : Blk C b cur ty) : b < C.w0.heap.size := (Array.getElem?_eq_some_iff.1 h.hp).1
theorem Blk.marked {C C' : Cx} {b : Nat} {cur : List Value} {ty : TypeId} {K : List Nat} (h : Blk C b cur ty) (k : Mk C K C') (hb : b ∉ K) : Blk C' b cur ty := by
  have hlt := h.lt
  refine ⟨(k.pres.block b hlt fun h1 => h1.elim h.dm hb).trans h.hp, fun h1 => ?_, fun h1 => ?_⟩
  · rcases k.dm b h1 with h2 | h2
    · exact h.dm h2
    · omega
  · rcases k.fz b h1 with h2 | h2 | h2
    · exact h.s0 h2
    · omega
    · exact h.dm h2
theorem Mk.trans {C C' C'' : Cx} {K K' : List Nat} (h : Mk C K C') (k : Mk C' K' C'') (hK : ∀ b ∈ K', b < C.w0.heap.size → b ∈ K) : Mk C K C'' := by
  have hs := h.pres.size
  refine ⟨⟨k.pres.os.trans h.pres.os, k.pres.tape.trans h.pres.tape, k.pres.output.trans h.pres.output, Nat.le_trans hs k.pres.size, fun b hb hd => ?_⟩, ?_, fun b hb => k.s0 b (h.s0 b hb), ?_⟩
  · rw [k.pres.block b (by omega) (fun h1 => by
      rcases h1 with h1 | h1
      · rcases h.dm b h1 with h2 | h2
        · exact hd (.inl h2)
        · omega
      · exact hd (.inr (hK b h1 hb)))]
    exact h.pres.block b hb hd
  · intro b hb
    rcases k.dm b hb with h1 | h1
    · exact h.dm b h1
    · exact .inr (by omega)
  · intro b hb
    rcases k.fz b hb with h1 | h1 | h1
    · exact h.fz b h1
    · exact .inr (.inl (by omega))
    · rcases h.dm b h1 with h2 | h2
      · exact .inr (.inr h2)
      · exact .inr (.inl h2)
theorem Mk.mono {C C' : Cx} {K K' : List Nat} (h : Mk C K C') (hK : ∀ b ∈ K, b ∈ K') : Mk C K' C' :=
  ⟨⟨h.pres.os, h.pres.tape, h.pres.output, h.pres.size, fun b hb hd => h.pres.block b hb fun h1 => hd (h1.imp id (hK b))⟩, h.dm, h.s0, h.fz⟩

section
variable {P : Program} {C : Cx} {n : Nat} {f : Fr} {L : Hp} {Q : AQ} {ops : Array Oper} {rest : List Oper} {dst : Option Tmp} {ty : TypeId} {pos : String} {after : Array Edge} {g : Option (Nat × Bool)}

theorem Ev_len_c {t e : TypeId} {x : Operand} {A : Option Addr} {m c : Nat} (ht : tyElem P t = some e) (hx : ev f x = .d (.c (.slice A m c))) : Ev P C n ⟨dst, callB .len #[x] #[t], ty, pos, after, g⟩ f L (i64 m) :=
  Ev_len_of ht fun a w β S hr => ⟨A, c, eval_c hr hx⟩
end

/-! ### The start and the end -/
def retM (fn : Func) (P : Program) (w0 : World) (d' : D) (cs : List Value) (K : List Nat) (m' : Int) (a : Act) (w' : World) : Prop :=
  a.defers = [] ∧ (results fn a.tmps).run P w' = .ok (.int .i64 m') w' ∧ Tr w' d' cs K ∧ Pres (fun b => b ∈ K) w0 w'
def retMQ (fn : Func) (P : Program) (w0 : World) (d' : D) (cs : List Value) (K : List Nat) (m' : Int) : AQ := fun e a w => ends e = true ∧ retM fn P w0 d' cs K m' a w

section
variable {P : Program} {C : Cx} {n : Nat} {f : Fr} {L : Hp}
/-- The frame at the start: the value told by its cells, and the number. -/
def frM (v : V) (m : Int) : Fr := fun i => bif Nat.beq i 0 then v else bif Nat.beq i 1 then i64 m else .any

end

theorem srcFree {src : List (Option Nat)} {i : Nat} (h : src.all (fun o => !(o == some i)) = true) : ∀ j, srcOf src j ≠ some i := by
  intro j hj
  unfold srcOf at hj
  split at hj
  · rename_i o ho
    have := List.all_eq_true.1 h o (List.mem_of_getElem? ho)
    subst hj
    simp at this
  · cases hj
/-- The numbers from k on. -/
def iota (k : Int) : Nat → List Int
  | 0 => []
  | n + 1 => k :: iota (k + 1) n
@[simp] theorem iota_length : ∀ (n : Nat) (k : Int), (iota k n).length = n
  | 0, _ => rfl
  | n + 1, k => by simp [iota, iota_length n]
end Go.Eng

/- The engine: a slice of bytes as a string; the text that a mark writes. -/
set_option linter.unusedVariables false
set_option linter.unusedSimpArgs false
namespace Go.Eng

def u8s (xs : List Int) : List D := xs.map fun n => .c (.int .u8 n)
@[simp] theorem u8s_length (xs : List Int) : (u8s xs).length = xs.length := by simp [u8s]
section
variable {P : Program} {C : Cx} {n : Nat} {f : Fr} {L : Hp} {dst : Option Tmp} {ty : TypeId} {pos : String} {after : Array Edge} {g : Option (Nat × Bool)}
end

/-- The digits of a number ahead of a text. -/
def digs : Nat → Int → ByteArray → ByteArray
  | 0, _, s => s
  | n + 1, k, s => if 0 < k then digs n (Int.tdiv k 10) (strOfNums [IntKind.u8.wrap (IntKind.i64.wrap (48 + Int.tmod k 10))] ++ s) else s
def mtext (k : Int) : ByteArray := if k ≤ 0 then ⟨#[109, 48]⟩ else ⟨#[109]⟩ ++ digs k.toNat k ⟨#[]⟩
theorem Mk.refl (C : Cx) (K : List Nat) : Mk C K C := ⟨⟨rfl, rfl, rfl, Nat.le_refl _, fun _ _ _ => rfl⟩, fun _ h => .inl h, fun _ h => h, fun _ h => .inl h⟩
abbrev vi (n : Int) : Value := .int .i64 n
end Go.Eng

/- The engine: reading calls in a region that draws its order; returns under later contexts. -/
set_option linter.unusedVariables false
set_option linter.unusedSimpArgs false
namespace Go.Eng
section
variable {P : Program} {C : Cx} {n : Nat} {ops : Array Oper} {Q : AQ} {f : Fr} {L : Hp} {dst : Option Tmp} {ty : TypeId} {pos : String} {after : Array Edge} {i : Nat} {r : List Nat}
end
section
variable {P : Program} {C : Cx} {n : Nat} {f : Fr} {L : Hp}
theorem ret_okX {C0 : Cx} {fn : Func} {post : List D → Prop} {vs : List V} {ds : List D} (hx : CExt C0 C) (hdm : ∀ b, ¬ C0.Dm b) (h1 : RetV P f L fn.results.toList vs) (h2 : ReadsL L (fun _ => True) vs ds) (h3 : post ds) : Fin C n (retQ fn P C0.w0 C0.S0 post .ret) f L := fun a w β S hr => ⟨rfl, ret_fin hx hdm h1 h2 h3 a w β S hr⟩
theorem joinF {F : Prop} {sl : List (Nat × V)} {L2 : Hp} (src : List (Option Nat)) (hlen : src.length = L2.length) (hnd : nodupS src = true) (hF : F) (hb : BxTo L src 0 L2) (hs : SlTo L src f sl) : Fin C n (fun a w => ∃ f' L' β S, Rel C n f' L' a w β S ∧ (F ∧ f' = frOf sl ∧ L' = L2)) f L := fin_wk (Wk_to src _ L2 hlen hnd hb hs ⟨hF, rfl, rfl⟩)
theorem Got.apart {C C' : Cx} {r : D} {l : Lay} {cs : List Value} {K : List Nat} (g : Got C r l C' cs K) {B : Nat} {d : D} {cs0 : List Value} {K0 : List Nat} (h : Has B C d cs0 K0) : ∀ b ∈ K, b ∉ K0 := fun b hb hb0 => by
  have := g.has.lo b hb
  have := Tr_lt _ _ _ h.tr b hb0
  omega
end
end Go.Eng

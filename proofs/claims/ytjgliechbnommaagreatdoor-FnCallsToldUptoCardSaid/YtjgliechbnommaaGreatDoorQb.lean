/- The engine and the contracts of the functions that the claim reaches (texts packed, part 2). -/
import Derived.Test.YtjgliechbnommaaGreatDoorQa
set_option linter.unusedVariables false
set_option linter.unusedSimpArgs false
namespace Go.Eng
def EvA (P : Program) (n : Nat) (o : Oper) (f : Fr) (L : Hp) (v : V) : Prop :=
 ∀ C f', (∀ x ∈ o.op.operands, ev f' x = ev f x) → ∀ L' : Hp, (readsHp o.op = true → L' = L) → Ev P C n o f' L' v
theorem maps_congr {f f2 : Fr} {l : List Operand} (h : ∀ x ∈ l, ev f2 x = ev f x) : l.map (ev f2) = l.map (ev f) := List.map_congr_left h
section
variable {P : Program} {C : Cx} {n : Nat} {f : Fr} {L : Hp} {dst : Option Tmp} {ty : TypeId} {pos : String} {after : Array Edge} {g : Option (Nat × Bool)}
theorem EA_move {x : Operand} : EvA P n ⟨dst, .move x, ty, pos, after, g⟩ f L (ev f x) := fun C_ f2_ hf_ L2_ hL_ => by rw [← hf_ x (by simp [Op.operands])]; exact Ev_move
theorem EA_assign {x : Operand} : EvA P n ⟨dst, .assign x, ty, pos, after, g⟩ f L (ev f x) := fun C_ f2_ hf_ L2_ hL_ => by rw [← hf_ x (by simp [Op.operands])]; exact Ev_assign
theorem EA_pick {c x y : Operand} {b : Bool} (hc : ev f c = bl b) : EvA P n ⟨dst, .pick c x y, ty, pos, after, g⟩ f L (bif b then ev f x else ev f y) := fun C_ f2_ hf_ L2_ hL_ => by
 rw [← hf_ x (by simp [Op.operands]), ← hf_ y (by simp [Op.operands])]
 exact Ev_pick ((hf_ c (by simp [Op.operands])).trans hc)
theorem EA_add {t ty' : TypeId} {x y : Operand} {k : IntKind} {u v : Int} (hx : ev f x = .d (.c (.int k u))) (hy : ev f y = .d (.c (.int k v))) (z : Int) (hz : k.wrap (u + v) = z) : EvA P n ⟨dst, .binOp .add t x y ty', ty, pos, after, g⟩ f L (.d (.c (.int k z))) := fun C_ f2_ hf_ L2_ hL_ => Ev_add ((hf_ x (by simp [Op.operands, Call.operands])).trans hx) ((hf_ y (by simp [Op.operands, Call.operands])).trans hy) z hz
theorem EA_sub {t ty' : TypeId} {x y : Operand} {k : IntKind} {u v : Int} (hx : ev f x = .d (.c (.int k u))) (hy : ev f y = .d (.c (.int k v))) (z : Int) (hz : k.wrap (u - v) = z) : EvA P n ⟨dst, .binOp .sub t x y ty', ty, pos, after, g⟩ f L (.d (.c (.int k z))) := fun C_ f2_ hf_ L2_ hL_ => Ev_sub ((hf_ x (by simp [Op.operands, Call.operands])).trans hx) ((hf_ y (by simp [Op.operands, Call.operands])).trans hy) z hz
theorem EA_rem {t ty' : TypeId} {x y : Operand} {k : IntKind} {u v : Int} (hx : ev f x = .d (.c (.int k u))) (hy : ev f y = .d (.c (.int k v))) (h0 : v ≠ 0) : EvA P n ⟨dst, .binOp .rem t x y ty', ty, pos, after, g⟩ f L (.d (.c (.int k (u.tmod v)))) := fun C_ f2_ hf_ L2_ hL_ => Ev_rem ((hf_ x (by simp [Op.operands, Call.operands])).trans hx) ((hf_ y (by simp [Op.operands, Call.operands])).trans hy) h0
theorem EA_shr {t ty' : TypeId} {x y : Operand} {k k' : IntKind} {u v : Int} (hx : ev f x = .d (.c (.int k u))) (hy : ev f y = .d (.c (.int k' v))) (h0 : ¬ v < 0) : EvA P n ⟨dst, .binOp .shr t x y ty', ty, pos, after, g⟩ f L (.d (.c (.int k (u.fdiv (2 ^ (min v.toNat k.bits)))))) := fun C_ f2_ hf_ L2_ hL_ => Ev_shr ((hf_ x (by simp [Op.operands, Call.operands])).trans hx) ((hf_ y (by simp [Op.operands, Call.operands])).trans hy) h0
theorem EA_and {t ty' : TypeId} {x y : Operand} {k : IntKind} {u v : Int} (hx : ev f x = .d (.c (.int k u))) (hy : ev f y = .d (.c (.int k v))) : EvA P n ⟨dst, .binOp .and t x y ty', ty, pos, after, g⟩ f L (.d (.c (.int k (k.wrap (BitVec.ofInt k.bits u &&& BitVec.ofInt k.bits v).toNat)))) := fun C_ f2_ hf_ L2_ hL_ => Ev_and ((hf_ x (by simp [Op.operands, Call.operands])).trans hx) ((hf_ y (by simp [Op.operands, Call.operands])).trans hy)
theorem EA_xor {t ty' : TypeId} {x y : Operand} {k : IntKind} {u v : Int} (hx : ev f x = .d (.c (.int k u))) (hy : ev f y = .d (.c (.int k v))) : EvA P n ⟨dst, .binOp .xor t x y ty', ty, pos, after, g⟩ f L (.d (.c (.int k (k.wrap (BitVec.ofInt k.bits u ^^^ BitVec.ofInt k.bits v).toNat)))) := fun C_ f2_ hf_ L2_ hL_ => Ev_xor ((hf_ x (by simp [Op.operands, Call.operands])).trans hx) ((hf_ y (by simp [Op.operands, Call.operands])).trans hy)
theorem EA_eql {t ty' : TypeId} {x y : Operand} {k : IntKind} {u v : Int} (hx : ev f x = .d (.c (.int k u))) (hy : ev f y = .d (.c (.int k v))) : EvA P n ⟨dst, .binOp .eql t x y ty', ty, pos, after, g⟩ f L (bl (decide (u = v))) := fun C_ f2_ hf_ L2_ hL_ => Ev_eql ((hf_ x (by simp [Op.operands, Call.operands])).trans hx) ((hf_ y (by simp [Op.operands, Call.operands])).trans hy)
theorem EA_lss {t ty' : TypeId} {x y : Operand} {k : IntKind} {u v : Int} (hx : ev f x = .d (.c (.int k u))) (hy : ev f y = .d (.c (.int k v))) : EvA P n ⟨dst, .binOp .lss t x y ty', ty, pos, after, g⟩ f L (bl (decide (u < v))) := fun C_ f2_ hf_ L2_ hL_ => Ev_lss ((hf_ x (by simp [Op.operands, Call.operands])).trans hx) ((hf_ y (by simp [Op.operands, Call.operands])).trans hy)
theorem EA_seql {t ty' : TypeId} {x y : Operand} {u v : ByteArray} (hx : ev f x = st u) (hy : ev f y = st v) : EvA P n ⟨dst, .binOp .eql t x y ty', ty, pos, after, g⟩ f L (bl (decide (u = v))) := fun C_ f2_ hf_ L2_ hL_ => Ev_seql ((hf_ x (by simp [Op.operands, Call.operands])).trans hx) ((hf_ y (by simp [Op.operands, Call.operands])).trans hy)
theorem EA_sneq {t ty' : TypeId} {x y : Operand} {u v : ByteArray} (hx : ev f x = st u) (hy : ev f y = st v) : EvA P n ⟨dst, .binOp .neq t x y ty', ty, pos, after, g⟩ f L (bl (!decide (u = v))) := fun C_ f2_ hf_ L2_ hL_ => Ev_sneq ((hf_ x (by simp [Op.operands, Call.operands])).trans hx) ((hf_ y (by simp [Op.operands, Call.operands])).trans hy)
theorem EA_sadd {t ty' : TypeId} {x y : Operand} {u v : ByteArray} (hx : ev f x = st u) (hy : ev f y = st v) (hb : u.size + v.size ≤ 4611686018427387904) : EvA P n ⟨dst, .binOp .add t x y ty', ty, pos, after, g⟩ f L (st (u ++ v)) := fun C_ f2_ hf_ L2_ hL_ => Ev_sadd ((hf_ x (by simp [Op.operands, Call.operands])).trans hx) ((hf_ y (by simp [Op.operands, Call.operands])).trans hy) hb
theorem EA_not {t : TypeId} {x : Operand} {b : Bool} (hx : ev f x = bl b) : EvA P n ⟨dst, .unOp .not t x, ty, pos, after, g⟩ f L (bl (!b)) := fun C_ f2_ hf_ L2_ hL_ => Ev_not ((hf_ x (by simp [Op.operands, Call.operands])).trans hx)
theorem EA_neg {t : TypeId} {x : Operand} {k : IntKind} {u : Int} (hx : ev f x = .d (.c (.int k u))) (z : Int) (hz : k.wrap (-u) = z) : EvA P n ⟨dst, .unOp .neg t x, ty, pos, after, g⟩ f L (.d (.c (.int k z))) := fun C_ f2_ hf_ L2_ hL_ => Ev_neg ((hf_ x (by simp [Op.operands, Call.operands])).trans hx) z hz
theorem EA_conv_int {s d : TypeId} {x : Operand} {k k' : IntKind} {u : Int} (hs : (P.underlying s).isSome = true) (hd : tyInt P d = some k') (hx : ev f x = .d (.c (.int k u))) (z : Int) (hz : k'.wrap u = z) : EvA P n ⟨dst, .convert s d x, ty, pos, after, g⟩ f L (.d (.c (.int k' z))) := fun C_ f2_ hf_ L2_ hL_ => Ev_conv_int hs hd ((hf_ x (by simp [Op.operands, Call.operands])).trans hx) z hz
theorem EA_len_sl {t e : TypeId} {x : Operand} {l : Lay} {xs : List D} (ht : tyElem P t = some e) (hx : ev f x = .d (.sl l xs)) : EvA P n ⟨dst, callB .len #[x] #[t], ty, pos, after, g⟩ f L (i64 xs.length) := fun C_ f2_ hf_ L2_ hL_ => Ev_len_sl ht ((hf_ x (by simp [Op.operands, Call.operands])).trans hx)
theorem EA_load_ptr {t : TypeId} {x : Operand} {l l' l'' : Lay} {i k o : Nat} {p : List Nat} {bx : Box} {e y : V} (hx : ev f x = .ptr l i k p) (hL : L[i]? = some (some bx)) (hbl : bx.l = l) (he : bx.es[k]? = some e)
 (hp : e.at? l p = some (o, l', y)) (hq : l.at? p = some (o, l'')) (hs : tySize P t = some l'.len) {ag : Bool} (ha : tyAgg P t = some ag) (hag : y.isAgg = ag) (h1 : ag = false → l'.len = 1) : EvA P n ⟨dst, .load t x, ty, pos, after, g⟩ f L y := fun C_ f2_ hf_ L2_ hL_ => Ev_load_ptr ((hf_ x (by simp [Op.operands, Call.operands])).trans hx) (by rw [hL_ rfl]; exact hL) hbl he hp hq hs ha hag h1
theorem EA_load_rp {t : TypeId} {x : Operand} {l l' l'' : Lay} {o : Nat} {p : List Nat} {e y : D} (hx : ev f x = .d (.rp l e p))
 (hp : e.at? l p = some (o, l', y)) (hq : l.at? p = some (o, l'')) (hs : tySize P t = some l'.len) {ag : Bool} (ha : tyAgg P t = some ag) (hag : y.isAgg = ag) (h1 : ag = false → l'.len = 1) : EvA P n ⟨dst, .load t x, ty, pos, after, g⟩ f L (.d y) := fun C_ f2_ hf_ L2_ hL_ => Ev_load_rp ((hf_ x (by simp [Op.operands, Call.operands])).trans hx) hp hq hs ha hag h1
theorem EA_fa_ptr {s : TypeId} {x : Operand} {l l1 l2 : Lay} {i k j o0 o : Nat} {p : List Nat} (hx : ev f x = .ptr l i k p) (hf : tyField P s j = some (o, true)) (h1 : l.at? p = some (o0, l1)) (h2 : l.at? (p ++ [j]) = some (o0 + o, l2)) : EvA P n ⟨dst, .fieldAddr s x j, ty, pos, after, g⟩ f L (.ptr l i k (p ++ [j])) := fun C_ f2_ hf_ L2_ hL_ => Ev_fa_ptr ((hf_ x (by simp [Op.operands, Call.operands])).trans hx) hf h1 h2
theorem EA_fa_rp {s : TypeId} {x : Operand} {l l1 l2 : Lay} {j o0 o : Nat} {p : List Nat} {e : D} (hx : ev f x = .d (.rp l e p)) (hf : tyField P s j = some (o, true)) (h1 : l.at? p = some (o0, l1)) (h2 : l.at? (p ++ [j]) = some (o0 + o, l2)) : EvA P n ⟨dst, .fieldAddr s x j, ty, pos, after, g⟩ f L (.d (.rp l e (p ++ [j]))) := fun C_ f2_ hf_ L2_ hL_ => Ev_fa_rp ((hf_ x (by simp [Op.operands, Call.operands])).trans hx) hf h1 h2
theorem EA_nilc_ptr {x : Operand} {l : Lay} {i k : Nat} {p : List Nat} (hx : ev f x = .ptr l i k p) : EvA P n ⟨dst, .nilCheck x, ty, pos, after, g⟩ f L (.ptr l i k p) := fun C_ f2_ hf_ L2_ hL_ => Ev_nilc_ptr ((hf_ x (by simp [Op.operands, Call.operands])).trans hx)
theorem EA_nilc_rp {x : Operand} {l : Lay} {e : D} {p : List Nat} (hx : ev f x = .d (.rp l e p)) : EvA P n ⟨dst, .nilCheck x, ty, pos, after, g⟩ f L (.d (.rp l e p)) := fun C_ f2_ hf_ L2_ hL_ => Ev_nilc_rp ((hf_ x (by simp [Op.operands, Call.operands])).trans hx)
theorem EA_ix_sl {t e : TypeId} {x y : Operand} {k : IntKind} {j : Int} {l : Lay} {xs : List D} {z : D} (hx : ev f x = .d (.sl l xs)) (hy : ev f y = .d (.c (.int k j))) (ht : tyElem P t = some e) (hs : tySize P e = some l.len) (h0 : 0 ≤ j) (hz : xs[j.toNat]? = some z) : EvA P n ⟨dst, .indexAddr t x y, ty, pos, after, g⟩ f L (.d (.rp l z [])) := fun C_ f2_ hf_ L2_ hL_ => Ev_ix_sl ((hf_ x (by simp [Op.operands, Call.operands])).trans hx) ((hf_ y (by simp [Op.operands, Call.operands])).trans hy) ht hs h0 hz
theorem EA_ix_ref {t e : TypeId} {x y : Operand} {k : IntKind} {j : Int} {l : Lay} {i off m : Nat} (hx : ev f x = .ref l i off m) (hy : ev f y = .d (.c (.int k j))) (ht : tyElem P t = some e) (hs : tySize P e = some l.len) (h0 : 0 ≤ j) (h1 : j < m) : EvA P n ⟨dst, .indexAddr t x y, ty, pos, after, g⟩ f L (.ptr l i (off + j.toNat) []) := fun C_ f2_ hf_ L2_ hL_ => Ev_ix_ref ((hf_ x (by simp [Op.operands, Call.operands])).trans hx) ((hf_ y (by simp [Op.operands, Call.operands])).trans hy) ht hs h0 h1
theorem EA_extract {x : Operand} {vs : List V} {j : Nat} {v : V} (hx : ev f x = .tup vs) (hj : vs[j]? = some v) : EvA P n ⟨dst, .extract x j, ty, pos, after, g⟩ f L v := fun C_ f2_ hf_ L2_ hL_ => Ev_extract ((hf_ x (by simp [Op.operands, Call.operands])).trans hx) hj
end
section
variable {P : Program} {C : Cx} {n : Nat} {ops : Array Oper} {qt : List Nat} {Q : AQ} {f : Fr} {L : Hp} {dst : Option Tmp} {op : Op} {ty : TypeId} {pos : String} {after : Array Edge} {i : Nat} {r : List Nat} {v : V}
theorem ev_looks {f' : Fr} {o : Oper} (h : ∀ s ∈ o.looksAt ops, f' s = f s) : ∀ x ∈ o.op.operands, ev f' x = ev f x := by
 intro x hx
 cases x with
 | tmp t =>
   refine h t ?_
   unfold Oper.looksAt
   refine List.mem_append_left _ (List.mem_filterMap.2 ⟨.tmp t, by simpa using hx, rfl⟩)
 | _ => rfl
theorem runOr_none {o : Oper} (hg : o.guard = none) {a : Act} {w : World} {K : Act → World → Prop} {Qc : Exit → Act → World → Prop} (h : o.wp P a w K Qc) : runOr P ops o a w K Qc := by
 unfold runOr
 rw [if_pos (by simp [Region.wanted, hg])]
 exact h
theorem wanted_iff {o : Oper} {j s : Nat} {want b : Bool} {a : Act} {w : World} {β : Beta} {S : Nat → Prop} {f' : Fr} {L' : Hp} (hg : o.guard = some (j, want)) (hj : (ops[j]?).bind (·.dst) = some s) (hs : Nat.blt s n = true) (hr : Rel C n f' L' a w β S) (hv : f' s = bl b) :
 Region.wanted o (yielded ops a.tmps) = (b == want) := by
 have hsn : s < a.tmps.size := by rw [hr.sz]; simpa [Nat.blt_eq] using hs
 have h1 := hr.fr s
 rw [hv] at h1
 have h1 := (VR_c.1 h1).1
 have h2 : a.tmps[s]? = some (.bool b) := by
  rw [Array.getD_eq_getD_getElem?] at h1
  rw [Array.getElem?_eq_getElem hsn] at h1 ⊢
  simpa using h1
 cases b <;> cases want <;> simp [Region.wanted, hg, yielded, hj, h2]
theorem wanted_u {o : Oper} {j s : Nat} {want : Bool} {a : Act} {w : World} {β : Beta} {S : Nat → Prop} {f' : Fr} {L' : Hp} (hg : o.guard = some (j, want)) (hj : (ops[j]?).bind (·.dst) = some s) (hs : Nat.blt s n = true) (hr : Rel C n f' L' a w β S) (hv : f' s = .tup []) :
 Region.wanted o (yielded ops a.tmps) = false := by
 have hsn : s < a.tmps.size := by rw [hr.sz]; simpa [Nat.blt_eq] using hs
 have h1 := hr.fr s
 rw [hv] at h1
 obtain ⟨xs0, h1, h2⟩ := h1
 cases h2
 have h2 : a.tmps[s]? = some (.tuple #[]) := by
  rw [Array.getD_eq_getD_getElem?] at h1
  rw [Array.getElem?_eq_getElem hsn] at h1 ⊢
  simpa using h1
 cases want <;> simp [Region.wanted, hg, yielded, hj, h2]
theorem looks_guard {o : Oper} {j s : Nat} {want : Bool} (hg : o.guard = some (j, want)) (hj : (ops[j]?).bind (·.dst) = some s) : s ∈ o.looksAt ops := by
 unfold Oper.looksAt
 refine List.mem_append_right _ ?_
 rw [hg]
 simp only [hj]
 simp
theorem DT_f {j s : Nat} {want : Bool} (ho : ops[i]? = some ⟨dst, op, ty, pos, after, some (j, want)⟩) (hj : (ops[j]?).bind (·.dst) = some s) (hs : Nat.blt s n = true) (hv : f s = bl (!want)) (hd : dstOk n dst = true) (h : DT P n ops qt C Q r (updo f dst (.tup [])) L) : DT P n ops qt C Q (i :: r) f L := by
 refine .a ho ?_ h
 intro C hT f' hf L' _ a w β S hr K Qc hK
 have hw := wanted_iff (ops := ops) (o := ⟨dst, op, ty, pos, after, some (j, want)⟩) rfl hj hs hr ((hf s (looks_guard rfl hj)).trans hv)
 unfold runOr
 rw [if_neg (by rw [hw]; cases want <;> simp)]
 exact hK _ _ _ _ (hr.puto (dstOk_spec hd) ⟨[], rfl, .nil⟩)
theorem DT_u {j s : Nat} {want : Bool} (ho : ops[i]? = some ⟨dst, op, ty, pos, after, some (j, want)⟩) (hj : (ops[j]?).bind (·.dst) = some s) (hs : Nat.blt s n = true) (hv : f s = .tup []) (hd : dstOk n dst = true) (h : DT P n ops qt C Q r (updo f dst (.tup [])) L) : DT P n ops qt C Q (i :: r) f L := by
 refine .a ho ?_ h
 intro C hT f' hf L' _ a w β S hr K Qc hK
 have hw := wanted_u (ops := ops) (o := ⟨dst, op, ty, pos, after, some (j, want)⟩) rfl hj hs hr ((hf s (looks_guard rfl hj)).trans hv)
 unfold runOr
 rw [if_neg (by rw [hw]; simp)]
 exact hK _ _ _ _ (hr.puto (dstOk_spec hd) ⟨[], rfl, .nil⟩)
theorem DT_t {j s : Nat} {want : Bool} {L2 : Hp} (ho : ops[i]? = some ⟨dst, op, ty, pos, after, some (j, want)⟩) (hj : (ops[j]?).bind (·.dst) = some s) (hs : Nat.blt s n = true) (hv : f s = bl want)
 (hst : StA P n ops qt ⟨dst, op, ty, pos, after, none⟩ f L v) (h : DT P n ops qt C Q r (updo f dst v) L) : DT P n ops qt C Q (i :: r) f L := by
 refine .a ho ?_ h
 intro C hT f' hf L' hL a w β S hr K Qc hK
 have hw := wanted_iff (ops := ops) (o := ⟨dst, op, ty, pos, after, some (j, want)⟩) rfl hj hs hr ((hf s (looks_guard rfl hj)).trans hv)
 have hf2 : ∀ s ∈ (⟨dst, op, ty, pos, after, none⟩ : Oper).looksAt ops, f' s = f s := fun s hs => hf s (by
  unfold Oper.looksAt at hs ⊢
  simp only [List.append_nil] at hs
  exact List.mem_append_left _ hs)
 have := hst C hT f' hf2 L' hL a w β S hr K Qc hK
 unfold runOr at this ⊢
 rw [if_pos (by rw [hw]; simp)]
 rw [if_pos (by simp [Region.wanted])] at this
 exact this
theorem StA_ev (he : EvA P n ⟨dst, op, ty, pos, after, none⟩ f L v) (hd : dstOk n dst = true) (hq : quiet qt ⟨dst, op, ty, pos, after, none⟩ = false) : StA P n ops qt ⟨dst, op, ty, pos, after, none⟩ f L v := by
 intro C hT f' hf L' hL a w β S hr K Qc hK
 refine runOr_none rfl ?_
 obtain ⟨x, hx, hv⟩ := he C f' (ev_looks hf) L' (fun h => hL h hq) a w β S hr
 unfold Oper.wp
 rw [hx, Oper.upon_value]
 exact hK _ _ _ _ (hr.puto (dstOk_spec hd) hv)
theorem DT_ev (ho : ops[i]? = some ⟨dst, op, ty, pos, after, none⟩) (he : EvA P n ⟨dst, op, ty, pos, after, none⟩ f L v) (hd : dstOk n dst = true) (h : DT P n ops qt C Q r (updo f dst v) L) (hq : quiet qt ⟨dst, op, ty, pos, after, none⟩ = false := by rfl) : DT P n ops qt C Q (i :: r) f L :=
 .a ho (StA_ev he hd hq) h
theorem DT_evq (ho : ops[i]? = some ⟨dst, op, ty, pos, after, none⟩) (he : ∀ L', EvA P n ⟨dst, op, ty, pos, after, none⟩ f L' v) (hd : dstOk n dst = true) (h : DT P n ops qt C Q r (updo f dst v) L) : DT P n ops qt C Q (i :: r) f L :=
 .a ho (fun C hT f' hf L' _ => StA_ev (qt := []) (he L') hd (by simp [quiet]; intros; cases dst <;> rfl) C hT f' hf L' (fun _ _ => rfl)) h
theorem DT_evt {j s : Nat} {want : Bool} (ho : ops[i]? = some ⟨dst, op, ty, pos, after, some (j, want)⟩) (hj : (ops[j]?).bind (·.dst) = some s) (hs : Nat.blt s n = true) (hv : f s = bl want) (he : EvA P n ⟨dst, op, ty, pos, after, none⟩ f L v) (hd : dstOk n dst = true) (h : DT P n ops qt C Q r (updo f dst v) L) (hq : quiet qt ⟨dst, op, ty, pos, after, none⟩ = false := by rfl) : DT P n ops qt C Q (i :: r) f L :=
 DT_t (L2 := L) ho hj hs hv (StA_ev he hd hq) h
theorem StA_fcall {x : Operand} {args : Array Operand} {ts : Array TypeId} {k : FuncId} {ds caps rs : List D} (hx : ev f x = .d (.fn k caps)) (hcaps : caps.all (fun d => !d.isAgg) = true) (hc : Callable P k) (hp : PCall P k (ds ++ caps) (· = rs)) (ha : args.toList.map (ev f) = ds.map V.d)
 (hd : dstOk n dst = true) : StA P n ops qt ⟨dst, callV x args ts, ty, pos, after, none⟩ f L (retV rs) := by
 intro C hT f' hf L' hL a w β S hr K Qc hK
 have hev := ev_looks hf
 refine runOr_none rfl ?_
 have hx' : ev f' x = .d (.fn k caps) := (hev x (by simp [Op.operands, Call.operands])).trans hx
 have ha' : args.toList.map (ev f') = ds.map V.d := by
  rw [maps_congr fun y hy => hev y (by simp [Op.operands, Call.operands]; exact .inr (by simpa using hy))]
  exact ha
 have hv := rel_ev hr x
 rw [hx'] at hv
 obtain ⟨xs, h1, h2⟩ := VR_fn hv
 unfold Oper.wp
 rw [call_run hc h1, Oper.upon_enter]
 have hall := (args_RD hr args.toList ds ha').append (caps_RD caps xs hcaps h2)
 have heq : (args.map a.eval ++ xs.toArray) = (args.toList.map a.eval ++ xs).toArray := by simp
 rw [heq]
 refine (hp w S _ hr.hp.fz (hT.tab hr) hall).mono ?_
 rintro e w' ⟨y, rs', S', rfl, q1, q2, q3, q4, q5⟩
 subst q1
 exact hK _ _ _ _ ((hr.called q5 q3 q4).puto (dstOk_spec hd) (VR_retV q2))
theorem DT_fcall0 {x : Operand} {args : Array Operand} {ts : Array TypeId} {k : FuncId} {ds rs : List D} (ho : ops[i]? = some ⟨dst, callV x args ts, ty, pos, after, none⟩) (hx : ev f x = .d (.fn k [])) (hc : Callable P k) (hp : PCall P k ds (· = rs)) (ha : args.toList.map (ev f) = ds.map V.d)
 (hd : dstOk n dst = true) (h : DT P n ops qt C Q r (updo f dst (retV rs)) L) : DT P n ops qt C Q (i :: r) f L :=
 .a ho (StA_fcall hx rfl hc (by rw [List.append_nil]; exact hp) ha hd) h
theorem DT_fcall0t {x : Operand} {args : Array Operand} {ts : Array TypeId} {k : FuncId} {ds rs : List D} {j s : Nat} {want : Bool} (ho : ops[i]? = some ⟨dst, callV x args ts, ty, pos, after, some (j, want)⟩) (hj : (ops[j]?).bind (·.dst) = some s) (hs : Nat.blt s n = true) (hv : f s = bl want) (hx : ev f x = .d (.fn k [])) (hc : Callable P k) (hp : PCall P k ds (· = rs)) (ha : args.toList.map (ev f) = ds.map V.d)
 (hd : dstOk n dst = true) (h : DT P n ops qt C Q r (updo f dst (retV rs)) L) : DT P n ops qt C Q (i :: r) f L :=
 DT_t (L2 := L) ho hj hs hv (StA_fcall hx rfl hc (by rw [List.append_nil]; exact hp) ha hd) h
theorem DT_bool (s : Nat) {b : Bool} (hs : f s = bl b) (ht : b = true → DT P n ops qt C Q r (upd f s (bl true)) L) (hf : b = false → DT P n ops qt C Q r (upd f s (bl false)) L) : DT P n ops qt C Q r f L := by
 cases b with
 | true => have := ht rfl; rwa [upd_same hs] at this
 | false => have := hf rfl; rwa [upd_same hs] at this
end
end Go.Eng
set_option linter.unusedVariables false
set_option linter.unusedSimpArgs false
namespace Go.Eng
section
variable {P : Program} {C : Cx} {n : Nat} {ops : Array Oper} {qt : List Nat} {Q : AQ} {f : Fr} {L : Hp} {rest : List Oper} {dst : Option Tmp} {ty : TypeId} {pos : String} {after : Array Edge} {i : Nat} {r : List Nat}
theorem Rel.newRead {a : Act} {w : World} {β : Beta} {S : Nat → Prop} (h : Rel C n f L a w β S) (cur : Array Value) (e : TypeId) : Rel C n f L a (w.alloc (.cells cur e)) β (fun b => S b ∨ b = w.heap.size) := by
 have old : ∀ b, b < w.heap.size → (w.alloc (.cells cur e)).heap[b]? = w.heap[b]? := fun b hb => by
  show (w.heap.push _)[b]? = _
  rw [Array.getElem?_push, if_neg (by omega)]
 have lat : Later β S w β (fun b => S b ∨ b = w.heap.size) (w.alloc (.cells cur e)) := ⟨fun _ _ h => h, fun _ h => .inl h, fun b hb => old b (h.hp.fz b hb)⟩
 refine h.later lat ⟨fun i b hi => BoxR_later lat (fun b' c hb => old b' ((h.hp.bx i b hi).lt hb)) (h.hp.bx i b hi), h.hp.inj, ?_, ?_, h.hp.un, h.hp.ad⟩ h.own ?_ ?_
 ·rintro i bx b c hi hb (hs | hs)
  ·exact h.hp.own i bx b c hi hb hs
  ·have := (h.hp.bx i bx hi).lt hb
   omega
 ·rintro b (hs | hs)
  ·have := h.hp.fz b hs
   simp
   omega
  ·simp [hs]
 ·rintro b (hs | hs)
  ·exact h.fz b hs
  ·have := h.pres.size
   exact .inr (.inl (by omega))
 ·exact ⟨h.pres.os, h.pres.tape, h.pres.output, by have := h.pres.size; simp; omega, fun b hb hd => (old b (by have := h.pres.size; omega)).trans (h.pres.block b hb hd)⟩
theorem flat_RD {S : Nat → Prop} {w : World} {l : Lay} : ∀ {ds : List D} {xs : List Value}, All2 (RD S w) ds xs → (∀ d ∈ ds, d.len? = l.len) → DCs S w (List.replicate ds.length l) ds (xs.map (·.cells.toList)).flatten
 | _, _, .nil, _ => by simp [DCs]
 | _, _, .cons h1 h2, hl => by
   simp only [List.length_cons, List.replicate_succ, List.map_cons, List.flatten_cons, DCs]
   exact ⟨_, _, _, _, rfl, rfl, by rw [DC_len h1.1]; exact hl _ (by simp), h1.1, flat_RD h2 fun d hd => hl d (by simp [hd])⟩
theorem parts_RD {a : Act} {w : World} {β : Beta} {S : Nat → Prop} (hr : Rel C n f L a w β S) : ∀ (ps : List (Nat × Operand)) (i : Nat) (ds : List D), ps.map (fun q => (q.1, ev f q.2)) = numb i (ds.map V.d) → ∃ xs, ps.map (fun q => (q.1, a.eval q.2)) = numb i xs ∧ All2 (RD S w) ds xs ∧ xs.length = ds.length
 | [], i, ds, h => by
   cases ds with
   | nil => exact ⟨[], rfl, .nil, rfl⟩
   | cons v r => simp [numb] at h
 | q :: ps, i, ds, h => by
   cases ds with
   | nil => simp [numb] at h
   | cons d ds =>
     simp only [List.map_cons, numb, List.cons.injEq, Prod.mk.injEq] at h
     obtain ⟨⟨h1, h2⟩, h3⟩ := h
     obtain ⟨xs, e1, e2, e3⟩ := parts_RD hr ps (i + 1) ds h3
     refine ⟨a.eval q.2 :: xs, by simp [numb, e1, h1], .cons ?_ e2, by simp [e3]⟩
     have := rel_ev hr q.2
     rw [h2] at this
     exact RD_of_VR0 this
def lenDs (k : Nat) : List D → Bool
 | [] => true
 | d :: r => Nat.beq d.len? k && lenDs k r
theorem lenDs_spec {k : Nat} : ∀ {ds : List D}, lenDs k ds = true → ∀ d ∈ ds, d.len? = k
 | [], _, d, hd => by cases hd
 | d :: r, h, x, hx => by
   simp only [lenDs, Bool.and_eq_true] at h
   rcases List.mem_cons.1 hx with rfl | hx
   ·exact Nat.eq_of_beq_eq_true h.1
   ·exact lenDs_spec h.2 x hx
theorem St_buildD {t e : TypeId} {len : Nat} {parts : Array (Nat × Operand)} {z : Value} (l : Lay) {ds : List D} (ht : tyElem P t = some e) (hs : tySize P e = some l.len) (hz : tyZero P e = some (some z)) (hp : parts.toList.map (fun q => (q.1, ev f q.2)) = numb 0 (ds.map V.d))
 (hlen : ds.length = len) (hsmall : len * l.len ≤ 16777216) (hpos : 0 < l.len) (hg : lenDs l.len ds = true) (hd : dstOk n dst = true) :
 StQ P C n ⟨dst, .buildSlice t len parts, ty, pos, after, none⟩ f L (fun f' L' => f' = updo f dst (.d (.sl l ds)) ∧ L' = L) := by
 subst hlen
 intro a w β S hr K Qc hK
 obtain ⟨xs, e1, e2, e3⟩ := parts_RD hr parts.toList 0 ds hp
 have hxs : ∀ x ∈ xs, x.cells.size = l.len := by
  have key : ∀ (ds : List D) (xs : List Value), All2 (RD S w) ds xs → (∀ d ∈ ds, d.len? = l.len) → ∀ x ∈ xs, x.cells.size = l.len := by
   intro ds xs h
   induction h with
   | nil => simp
   | cons h1 _ ih =>
     intro hl x hx
     rcases List.mem_cons.1 hx with rfl | hx
     ·have := DC_len h1.1
      rw [hl _ (by simp)] at this
      simpa using this
     ·exact ih (fun d hd => hl d (by simp [hd])) x hx
  exact key ds xs e2 (lenDs_spec hg)
 have hpl : (parts.map fun q => (q.1, a.eval q.2)).toList = numb 0 xs := by rw [Array.toList_map]; exact e1
 have hflat := flat_RD (l := l) e2 (lenDs_spec hg)
 have hfl : ((xs.map (·.cells.toList)).flatten).length = ds.length * l.len := by
  have := (DCs_len _ _ _ hflat).1
  rwa [lens_replicate] at this
 have hcells : ∀ zc : Array Value, Instr.fill (fun i => some (i * l.len, l.len)) ((Array.range (ds.length * l.len)).map (zc[· % zc.size]!)) (numb 0 xs) = some ((xs.map (·.cells.toList)).flatten).toArray := by
  intro zc
  rw [fill_seq l.len xs 0 _ hxs (by simp [e3])]
  simp
 have hrun : (execOp a.eval ⟨dst, .buildSlice t ds.length parts, ty, pos, after, none⟩).run P w = .ok (.value (.slice (some ⟨w.heap.size, 0, none⟩) ds.length ds.length)) (w.alloc (.cells ((xs.map (·.cells.toList)).flatten).toArray e)) := by
  have hns : ¬ (ds.length * l.len > 2 ^ 24) := by omega
  simp only [execOp, Instr.buildSlice, Sem.run_bind, run_underlying (elem_some ht), Result.andThen, run_sizeOf' hs, if_neg hns]
  by_cases h0 : ds.length * l.len = 0
  ·simp only [if_pos h0, Sem.run_bind, Sem.run_pure, Result.andThen, hpl]
   rw [hcells]
   simp [run_newRow, Result.andThen]
  ·simp only [if_neg h0, Sem.run_bind, zeroValue_run hz, Sem.run_pure, Result.andThen, hpl]
   rw [hcells]
   simp [run_newRow, Result.andThen]
 unfold Oper.wp
 rw [hrun, Oper.upon_value]
 have hlv : ds.length ≤ 16777216 := Nat.le_trans (Nat.le_mul_of_pos_right _ hpos) hsmall
 have hr' := hr.newRead ((xs.map (·.cells.toList)).flatten).toArray e
 have old : ∀ b, S b → (w.alloc (.cells ((xs.map (·.cells.toList)).flatten).toArray e)).heap[b]? = w.heap[b]? := fun b hb => by
  have := hr.hp.fz b hb
  show (w.heap.push _)[b]? = _
  rw [Array.getElem?_push, if_neg (by omega)]
 refine hK _ _ _ _ _ _ (hr'.puto (dstOk_spec hd) (VR_sl_mk (Nat.le_refl _) (by simp only [lim]; omega) (.inr ⟨w.heap.size, 0, _, rfl, .inr rfl, DCs_later (fun _ h => .inl h) old _ _ _ hflat, fun j x hx => ?_⟩))) ⟨rfl, rfl⟩
 have : (w.alloc (.cells ((xs.map (·.cells.toList)).flatten).toArray e)).heap[w.heap.size]? = some (.cells ((xs.map (·.cells.toList)).flatten).toArray e) := by
  show (w.heap.push _)[w.heap.size]? = _
  simp
 unfold World.cell?
 simp only
 rw [this]
 simpa using hx
theorem AL_buildD {t e : TypeId} {len : Nat} {parts : Array (Nat × Operand)} {z : Value} (l : Lay) {ds : List D} (ht : tyElem P t = some e) (hs : tySize P e = some l.len) (hz : tyZero P e = some (some z)) (hp : parts.toList.map (fun q => (q.1, ev f q.2)) = numb 0 (ds.map V.d))
 (hlen : ds.length = len) (hsmall : len * l.len ≤ 16777216) (hpos : 0 < l.len) (hg : lenDs l.len ds = true) (hd : dstOk n dst = true)
 (h : AL P C n ops rest Q (updo f dst (.d (.sl l ds))) L) : AL P C n ops (⟨dst, .buildSlice t len parts, ty, pos, after, none⟩ :: rest) Q f L :=
 AL_stepQ rfl (St_buildD l ht hs hz hp hlen hsmall hpos hg hd) (fun f' L' ⟨h1, h2⟩ => by subst h1; subst h2; exact h)
theorem parts_congr {f f2 : Fr} {ps : List (Nat × Operand)} (h : ∀ q ∈ ps, ev f2 q.2 = ev f q.2) : ps.map (fun q => (q.1, ev f2 q.2)) = ps.map (fun q => (q.1, ev f q.2)) := List.map_congr_left fun q hq => by rw [h q hq]
theorem StA_of {o : Oper} (hg : o.guard = none) (hnr : readsHp o.op = false) {v : V} (h : ∀ C f' L', (∀ x ∈ o.op.operands, ev f' x = ev f x) → StQ P C n o f' L' (fun f'' L'' => f'' = updo f' o.dst v ∧ L'' = L')) : StA P n ops qt o f L v := by
 intro C _ f' hf L' _ a w β S hr K Qc hK
 exact runOr_none hg (h C f' L' (ev_looks hf) a w β S hr K Qc fun a' w' β' S' f'' L'' hr' ⟨e1, e2⟩ => by subst e1; subst e2; exact hK _ _ _ _ hr')
theorem StB_of {o : Oper} (hg : o.guard = none) {v : V} {L2 : Hp} (h : ∀ C f', (∀ x ∈ o.op.operands, ev f' x = ev f x) → StQ P C n o f' L (fun f'' L'' => f'' = updo f' o.dst v ∧ L'' = L2)) : StB P n ops o f L v L2 := by
 intro C _ f' hf a w β S hr K Qc hK
 exact runOr_none hg (h C f' (ev_looks hf) a w β S hr K Qc fun a' w' β' S' f'' L'' hr' ⟨e1, e2⟩ => by subst e1; subst e2; exact hK _ _ _ _ hr')
theorem DT_buildD {t e : TypeId} {len : Nat} {parts : Array (Nat × Operand)} {z : Value} (l : Lay) {ds : List D} (ho : ops[i]? = some ⟨dst, .buildSlice t len parts, ty, pos, after, none⟩) (ht : tyElem P t = some e) (hs : tySize P e = some l.len) (hz : tyZero P e = some (some z)) (hp : parts.toList.map (fun q => (q.1, ev f q.2)) = numb 0 (ds.map V.d))
 (hlen : ds.length = len) (hsmall : len * l.len ≤ 16777216) (hpos : 0 < l.len) (hg : lenDs l.len ds = true) (hd : dstOk n dst = true)
 (h : DT P n ops qt C Q r (updo f dst (.d (.sl l ds))) L) : DT P n ops qt C Q (i :: r) f L :=
 .a ho (StA_of rfl rfl fun C f' L' hf => St_buildD l ht hs hz (by
  rw [parts_congr (fun q hq => hf q.2 (by
   simp only [Op.operands]
   simp only [List.mem_toArray, List.mem_map]
   exact ⟨q, hq, rfl⟩))]
  exact hp) hlen hsmall hpos hg hd) h
theorem DT_append_sl {t e : TypeId} {x y : Operand} {l : Lay} {j m bytes : Nat} {bx : Box} {xs : List D} {z : Value} (ho : ops[i]? = some ⟨dst, callB .append #[x, y] #[t, t], ty, pos, after, none⟩) (hx : ev f x = .ref l j 0 m) (hy : ev f y = .d (.sl l xs)) (hL : L[j]? = some (some bx)) (hl : bx.l = l) (ht : tyElem P t = some e) (hs : tySize P e = some l.len) (hz : tyZero P e = some (some z)) (hzl : z.cells.size = l.len) (hb : tyBytes P e = some bytes) (hb128 : bytes ≤ 128)
 (hpos : 0 < l.len) (he : bx.ty = e) (hm : bx.es.length = m) (hlim : m + xs.length ≤ lim) (q : Nat) (hq : L.length = q) (hd : dstOk n dst = true)
 (h : DT P n ops qt C Q r (updo f dst (.ref l q 0 (m + (xs.map V.d).length))) (L.set j none ++ [some ⟨e, l, bx.es ++ xs.map V.d⟩])) : DT P n ops qt C Q (i :: r) f L :=
 .b ho rfl (StB_of rfl fun C f' hf => St_append ((hf x (by simp [Op.operands, Call.operands])).trans hx) hL hl ht hs hz hzl hb hb128 hpos he hm (Src_sl ((hf y (by simp [Op.operands, Call.operands])).trans hy)) (by simpa using hlim) q hq hd) h
theorem DT_store {t : TypeId} {x y : Operand} {l l' l'' : Lay} {j k o : Nat} {p : List Nat} {bx : Box} {e e0 e' v : V} (ho : ops[i]? = some ⟨dst, .store t x y, ty, pos, after, none⟩)
 (hx : ev f x = .ptr l j k p) (hy : ev f y = v) (hk : v.known = true) (hL : L[j]? = some (some bx)) (hbl : bx.l = l) (he : bx.es[k]? = some e)
 (hp : e.at? l p = some (o, l', e0)) (hq : l.at? p = some (o, l'')) (hlen : v.len? = l'.len) (hs : tySize P t = some l'.len) (hput : e.put? p v = some e') (hd : dstOk n dst = true)
 (h : DT P n ops qt C Q r (updo f dst .any) (L.set j (some { bx with es := bx.es.set k e' }))) : DT P n ops qt C Q (i :: r) f L :=
 .b ho rfl (StB_of rfl fun C f' hf => St_store ((hf x (by simp [Op.operands])).trans hx) ((hf y (by simp [Op.operands])).trans hy) hk hL hbl he hp hq hlen hs hput hd) h
end
end Go.Eng
set_option linter.unusedVariables false
namespace Go.Eng
def upto : Nat → Nat → List Nat
 | _, 0 => []
 | i, k + 1 => i :: upto (i + 1) k
def allD : List V → Option (List D)
 | [] => some []
 | .d x :: r => match allD r with
   | some ds => some (x :: ds)
   | none => none
 | _ => none
def forceL : List V → Option (List V)
 | [] => some []
 | v :: r => match forceL r with
   | some vs => match v with
     | .any => none
     | .d x => some (.d x :: vs)
     | .agg a b => some (.agg a b :: vs)
     | .tup _ => none
     | .ref a b c d => some (.ref a b c d :: vs)
     | .ptr a b c d => some (.ptr a b c d :: vs)
     | .fn a b => some (.fn a b :: vs)
     | .emp => some (.emp :: vs)
   | none => none
def nfV : V → Option V
 | .any => none
 | .d x => some (.d x)
 | .agg a b => some (.agg a b)
 | .tup _ => none
 | .ref a b c d => some (.ref a b c d)
 | .ptr a b c d => some (.ptr a b c d)
 | .fn a b => some (.fn a b)
 | .emp => some .emp
theorem nf {v u : V} (h : nfV v = some u) : v = u := by
 cases v <;> simp only [nfV, Option.some.injEq] at h <;> first | exact h | cases h
theorem allD_spec : ∀ {vs : List V} {ds : List D}, allD vs = some ds → vs = ds.map V.d
 | [], ds, h => by simp only [allD, Option.some.injEq] at h; subst h; rfl
 | v :: r, ds, h => by
   cases v <;> simp only [allD] at h <;> try (cases h; done)
   split at h
   ·rename_i ds' e
    simp only [Option.some.injEq] at h
    subst h
    simp [allD_spec e]
   ·cases h
theorem forceL_spec : ∀ {vs us : List V}, forceL vs = some us → vs = us
 | [], us, h => by simp only [forceL, Option.some.injEq] at h; exact h
 | v :: r, us, h => by
   simp only [forceL] at h
   split at h
   ·rename_i vs e
    have := forceL_spec e
    subst this
    cases v <;> simp only [Option.some.injEq] at h <;> first | exact h | cases h
   ·cases h
theorem parts_of {f : Fr} : ∀ {ps : List (Nat × Operand)} {i : Nat} {us : List V}, ps.map (·.1) = upto i ps.length → ps.map (fun q => ev f q.2) = us → ps.map (fun q => (q.1, ev f q.2)) = numb i us
 | [], i, us, _, h => by subst h; rfl
 | q :: ps, i, us, h1, h => by
   subst h
   simp only [List.map_cons, List.length_cons, upto, List.cons.injEq] at h1
   simp only [List.map_cons, numb]
   rw [parts_of (i := i + 1) h1.2 rfl, h1.1]
section
variable {P : Program} {C : Cx} {n : Nat} {ops : Array Oper} {qt : List Nat} {Q : AQ} {f : Fr} {L : Hp} {rest : List Oper} {dst : Option Tmp} {ty : TypeId} {pos : String} {after : Array Edge} {i : Nat} {r : List Nat}
theorem AL_bD {t e : TypeId} {len : Nat} {parts : Array (Nat × Operand)} {z : Value} (l : Lay) {ds : List D} (hp : allD (parts.toList.map (fun q => ev f q.2)) = some ds) (ht : tyElem P t = some e) (hs : tySize P e = some l.len) (hz : tyZero P e = some (some z)) (hi : parts.toList.map (·.1) = upto 0 parts.toList.length)
 (hlen : ds.length = len) (hsmall : len * l.len ≤ 16777216) (hpos : 0 < l.len) (hg : lenDs l.len ds = true) (hd : dstOk n dst = true)
 (h : AL P C n ops rest Q (updo f dst (.d (.sl l ds))) L) : AL P C n ops (⟨dst, .buildSlice t len parts, ty, pos, after, none⟩ :: rest) Q f L :=
 AL_buildD l ht hs hz (parts_of hi (allD_spec hp)) hlen hsmall hpos hg hd h
theorem DT_bD {t e : TypeId} {len : Nat} {parts : Array (Nat × Operand)} {z : Value} (l : Lay) {ds : List D} (ho : ops[i]? = some ⟨dst, .buildSlice t len parts, ty, pos, after, none⟩) (hp : allD (parts.toList.map (fun q => ev f q.2)) = some ds) (ht : tyElem P t = some e) (hs : tySize P e = some l.len) (hz : tyZero P e = some (some z)) (hi : parts.toList.map (·.1) = upto 0 parts.toList.length)
 (hlen : ds.length = len) (hsmall : len * l.len ≤ 16777216) (hpos : 0 < l.len) (hg : lenDs l.len ds = true) (hd : dstOk n dst = true)
 (h : DT P n ops qt C Q r (updo f dst (.d (.sl l ds))) L) : DT P n ops qt C Q (i :: r) f L :=
 DT_buildD l ho ht hs hz (parts_of hi (allD_spec hp)) hlen hsmall hpos hg hd h
theorem AL_bV {t e : TypeId} {len : Nat} {parts : Array (Nat × Operand)} {z : Value} (l : Lay) {vs : List V} (hp : forceL (parts.toList.map (fun q => ev f q.2)) = some vs) (ht : tyElem P t = some e) (hs : tySize P e = some l.len) (hz : tyZero P e = some (some z)) (hi : parts.toList.map (·.1) = upto 0 parts.toList.length)
 (hlen : vs.length = len) (hsmall : len * l.len ≤ 16777216) (hpos : 0 < l.len) (hg : goodVs l.len vs = true) (m : Nat) (hm : L.length = m) (hd : dstOk n dst = true)
 (h : AL P C n ops rest Q (updo f dst (.ref l m 0 len)) (L ++ [some ⟨e, l, vs⟩])) : AL P C n ops (⟨dst, .buildSlice t len parts, ty, pos, after, none⟩ :: rest) Q f L :=
 AL_buildSlice l ht hs hz (parts_of hi (forceL_spec hp)) hlen hsmall hpos hg m hm hd h
theorem AL_lim {x : Operand} {l : Lay} {xs : List D} (hx : ev f x = .d (.sl l xs)) (h : xs.length ≤ 1099511627776 → AL P C n ops rest Q f L) : AL P C n ops rest Q f L := by
 intro a w β S hr
 have hv := rel_ev hr x
 rw [hx] at hv
 obtain ⟨A, cap, h1, h2, h3, h4⟩ := VR_sl hv
 exact h (by first | exact h3 | exact h4) a w β S hr
theorem AL_limB {x : Operand} {l : Lay} {j m : Nat} {bx : Box} (hx : ev f x = .ref l j 0 m) (hL : L[j]? = some (some bx)) (hm : bx.es.length = m) (h : m ≤ 1099511627776 → AL P C n ops rest Q f L) : AL P C n ops rest Q f L := by
 intro a w β S hr
 exact h (by rw [← hm]; exact (hr.hp.bx j bx hL).1) a w β S hr
end
theorem VwL_app {L : Hp} {src : List (Option Nat)} {xs ys zs : List D} (h : xs ++ ys = zs) : VwL L src (xs.map V.d ++ ys.map V.d) (zs.map V.d) := by
 rw [← List.map_append, h]
 exact VwL_d _
theorem VwL_dd {L : Hp} {src : List (Option Nat)} {xs zs : List D} (h : xs = zs) : VwL L src (xs.map V.d) (zs.map V.d) := by subst h; exact VwL_d _
end Go.Eng
set_option linter.unusedVariables false
set_option linter.unusedSimpArgs false
namespace Go.Eng
mutual
def Tr (w : World) : D → List Value → List Nat → Prop
 | .c x, cs, M => cs = [x] ∧ Value.scalar x = true ∧ M = []
 | .agg fs ds, cs, M => Trs w fs ds cs M
 | .sl l xs, cs, M => (cs = [.slice none 0 0] ∧ xs = [] ∧ M = []) ∨
    ∃ b Cp cur ty vs M', M = b :: M' ∧ b ∉ M' ∧ cs = [.slice (some ⟨b, 0, none⟩) xs.length Cp] ∧ w.heap[b]? = some (.cells cur ty (0, 0)) ∧ cur.size = Cp * l.len ∧ xs.length ≤ Cp ∧ Cp ≤ maxLen ∧ xs.length ≤ lim ∧
     Trs w (List.replicate xs.length l) xs vs M' ∧ ∀ (j : Nat) (x : Value), vs[j]? = some x → cur[j]? = some x
 | .rp _ _ _, _, _ => False
 | .fn _ _, _, _ => False
def Trs (w : World) : List Lay → List D → List Value → List Nat → Prop
 | fs, [], cs, M => fs = [] ∧ cs = [] ∧ M = []
 | fs, d :: ds, cs, M => ∃ f fr c1 c2 M1 M2, fs = f :: fr ∧ cs = c1 ++ c2 ∧ c1.length = f.len ∧ M = M1 ++ M2 ∧ (∀ b ∈ M1, b ∉ M2) ∧ Tr w d c1 M1 ∧ Trs w fr ds c2 M2
end
mutual
theorem Tr_keep {w w' : World} : ∀ (d : D) (cs : List Value) (M : List Nat), (∀ b ∈ M, w'.heap[b]? = w.heap[b]?) → Tr w d cs M → Tr w' d cs M
 | .c x, cs, M, hb, h => by simpa only [Tr] using h
 | .agg fs ds, cs, M, hb, h => by
   simp only [Tr] at h ⊢
   exact Trs_keep ds fs cs M hb h
 | .sl l xs, cs, M, hb, h => by
   simp only [Tr] at h ⊢
   rcases h with h | ⟨b, Cp, cur, ty, vs, M', rfl, h2, h3, h4, h5, h6, h7, h8, h9, h10⟩
   ·exact .inl h
   ·exact .inr ⟨b, Cp, cur, ty, vs, M', rfl, h2, h3, (hb b (by simp)).trans h4, h5, h6, h7, h8, Trs_keep xs _ vs M' (fun b' hb' => hb b' (by simp [hb'])) h9, h10⟩
 | .rp _ _ _, cs, M, hb, h => by simp only [Tr] at h
 | .fn _ _, cs, M, hb, h => by simp only [Tr] at h
theorem Trs_keep {w w' : World} : ∀ (ds : List D) (fs : List Lay) (cs : List Value) (M : List Nat), (∀ b ∈ M, w'.heap[b]? = w.heap[b]?) → Trs w fs ds cs M → Trs w' fs ds cs M
 | [], fs, cs, M, hb, h => by simpa only [Trs] using h
 | d :: ds, fs, cs, M, hb, h => by
   simp only [Trs] at h ⊢
   obtain ⟨f, fr, c1, c2, M1, M2, h1, h2, h3, rfl, h5, h6, h7⟩ := h
   exact ⟨f, fr, c1, c2, M1, M2, h1, h2, h3, rfl, h5, Tr_keep d c1 M1 (fun b hm => hb b (by simp [hm])) h6, Trs_keep ds fr c2 M2 (fun b hm => hb b (by simp [hm])) h7⟩
end
mutual
theorem Tr_DC {S : Nat → Prop} {w : World} : ∀ (d : D) (cs : List Value) (M : List Nat), (∀ b ∈ M, S b) → Tr w d cs M → DC S w d cs
 | .c x, cs, M, hb, h => by
   simp only [Tr, DC] at h ⊢
   exact ⟨h.1, h.2.1⟩
 | .agg fs ds, cs, M, hb, h => by
   simp only [Tr, DC] at h ⊢
   exact Trs_DC ds fs cs M hb h
 | .sl l xs, cs, M, hb, h => by
   simp only [Tr, DC] at h ⊢
   rcases h with ⟨h1, rfl, _⟩ | ⟨b, Cp, cur, ty, vs, M', rfl, h2, h3, h4, h5, h6, h7, h8, h9, h10⟩
   ·exact ⟨none, 0, 0, h1, rfl, Nat.le_refl _, Nat.zero_le _, .inl rfl⟩
   ·refine ⟨_, _, _, h3, rfl, h6, h8, .inr ⟨b, 0, vs, rfl, hb b (by simp), Trs_DC xs _ vs M' (fun b' hb' => hb b' (by simp [hb'])) h9, fun j x hx => ?_⟩⟩
    simp [World.cell?, h4, h10 j x hx]
 | .rp _ _ _, cs, M, hb, h => by simp only [Tr] at h
 | .fn _ _, cs, M, hb, h => by simp only [Tr] at h
theorem Trs_DC {S : Nat → Prop} {w : World} : ∀ (ds : List D) (fs : List Lay) (cs : List Value) (M : List Nat), (∀ b ∈ M, S b) → Trs w fs ds cs M → DCs S w fs ds cs
 | [], fs, cs, M, hb, h => by
   simp only [Trs, DCs] at h ⊢
   exact ⟨h.1, h.2.1⟩
 | d :: ds, fs, cs, M, hb, h => by
   simp only [Trs, DCs] at h ⊢
   obtain ⟨f, fr, c1, c2, M1, M2, h1, h2, h3, rfl, h5, h6, h7⟩ := h
   exact ⟨f, fr, c1, c2, h1, h2, h3, Tr_DC d c1 M1 (fun b hm => hb b (by simp [hm])) h6, Trs_DC ds fr c2 M2 (fun b hm => hb b (by simp [hm])) h7⟩
end
mutual
theorem Tr_lt {w : World} : ∀ (d : D) (cs : List Value) (M : List Nat), Tr w d cs M → ∀ b ∈ M, b < w.heap.size
 | .c x, cs, M, h => by
   simp only [Tr] at h
   rw [h.2.2]; simp
 | .agg fs ds, cs, M, h => by
   simp only [Tr] at h
   exact Trs_lt ds fs cs M h
 | .sl l xs, cs, M, h => by
   simp only [Tr] at h
   rcases h with ⟨h1, rfl, rfl⟩ | ⟨b, Cp, cur, ty, vs, M', rfl, h2, h3, h4, h5, h6, h7, h8, h9, h10⟩
   ·simp
   ·intro b' hb'
    rcases List.mem_cons.1 hb' with rfl | hb'
    ·exact (Array.getElem?_eq_some_iff.1 h4).1
    ·exact Trs_lt xs _ vs M' h9 b' hb'
 | .rp _ _ _, cs, M, h => by simp only [Tr] at h
 | .fn _ _, cs, M, h => by simp only [Tr] at h
theorem Trs_lt {w : World} : ∀ (ds : List D) (fs : List Lay) (cs : List Value) (M : List Nat), Trs w fs ds cs M → ∀ b ∈ M, b < w.heap.size
 | [], fs, cs, M, h => by
   simp only [Trs] at h
   rw [h.2.2]; simp
 | d :: ds, fs, cs, M, h => by
   simp only [Trs] at h
   obtain ⟨f, fr, c1, c2, M1, M2, h1, h2, h3, rfl, h5, h6, h7⟩ := h
   intro b hb
   rcases List.mem_append.1 hb with hb | hb
   ·exact Tr_lt d c1 M1 h6 b hb
   ·exact Trs_lt ds fr c2 M2 h7 b hb
end
theorem Trs_app {w : World} : ∀ (ds : List D) (fs : List Lay) (cs : List Value) (M : List Nat) {ds' : List D} {fs' : List Lay} {cs' : List Value} {M' : List Nat}, Trs w fs ds cs M → Trs w fs' ds' cs' M' → (∀ b ∈ M, b ∉ M') → Trs w (fs ++ fs') (ds ++ ds') (cs ++ cs') (M ++ M')
 | [], fs, cs, M, ds', fs', cs', M', h, k, hd => by
   simp only [Trs] at h
   obtain ⟨rfl, rfl, rfl⟩ := h
   exact k
 | d :: ds, fs, cs, M, ds', fs', cs', M', h, k, hd => by
   simp only [Trs] at h
   obtain ⟨f, fr, c1, c2, M1, M2, rfl, rfl, h3, rfl, h5, h6, h7⟩ := h
   simp only [List.cons_append, Trs]
   refine ⟨f, fr ++ fs', c1, c2 ++ cs', M1, M2 ++ M', rfl, by simp, h3, by simp, fun b hb hb2 => ?_, h6, Trs_app ds fr c2 M2 h7 k fun b hb => hd b (by simp [hb])⟩
   rcases List.mem_append.1 hb2 with hb2 | hb2
   ·exact h5 b hb hb2
   ·exact hd b (by simp [hb]) hb2
mutual
def rawV : Lay → List Value → V
 | .one, cs => .d (.c (cs.headD undef))
 | .st fs, cs => .agg fs (raws fs cs)
def raws : List Lay → List Value → List V
 | [], _ => []
 | f :: fr, cs => rawV f (cs.take f.len) :: raws fr (cs.drop f.len)
end
def Lay.ag : Lay → Bool
 | .one => false
 | .st _ => true
mutual
theorem rawV_VC {β : Beta} {S : Nat → Prop} {w : World} : ∀ (l : Lay) (cs : List Value), cs.length = l.len → (∀ x ∈ cs, Value.scalar x = true) → VC β S w (rawV l cs) cs
 | .one, cs, hl, hs => by
   simp only [Lay.len] at hl
   match cs, hl with
   | [x], _ =>
     simp only [rawV, List.headD_cons, VC, DC]
     exact ⟨trivial, hs x (by simp)⟩
 | .st fs, cs, hl, hs => by
   simp only [rawV, VC]
   exact raws_VC fs cs (by simpa only [Lay.len] using hl) hs
theorem raws_VC {β : Beta} {S : Nat → Prop} {w : World} : ∀ (fs : List Lay) (cs : List Value), cs.length = Lay.lens fs → (∀ x ∈ cs, Value.scalar x = true) → VCs β S w fs (raws fs cs) cs
 | [], cs, hl, hs => by
   simp only [Lay.lens] at hl
   simp only [raws, VCs]
   exact ⟨trivial, List.eq_nil_of_length_eq_zero hl⟩
 | f :: fr, cs, hl, hs => by
   simp only [Lay.lens] at hl
   simp only [raws, VCs]
   refine ⟨f, fr, cs.take f.len, cs.drop f.len, rfl, (List.take_append_drop _ _).symm, by simp; omega, rawV_VC f _ (by simp; omega) fun x hx => hs x (List.mem_of_mem_take hx), raws_VC fr _ (by simp; omega) fun x hx => hs x (List.mem_of_mem_drop hx)⟩
end
mutual
theorem rawV_cells {β : Beta} {S : Nat → Prop} {w : World} : ∀ (l : Lay) (cs cs' : List Value), cs.length = l.len → VC β S w (rawV l cs) cs' → cs' = cs
 | .one, cs, cs', hl, h => by
   simp only [Lay.len] at hl
   match cs, hl with
   | [x], _ =>
     simp only [rawV, List.headD_cons, VC, DC] at h
     exact h.1
 | .st fs, cs, cs', hl, h => by
   simp only [rawV, VC] at h
   exact raws_cells fs cs cs' (by simpa only [Lay.len] using hl) h
theorem raws_cells {β : Beta} {S : Nat → Prop} {w : World} : ∀ (fs : List Lay) (cs cs' : List Value), cs.length = Lay.lens fs → VCs β S w fs (raws fs cs) cs' → cs' = cs
 | [], cs, cs', hl, h => by
   simp only [Lay.lens] at hl
   simp only [raws, VCs] at h
   rw [h.2, List.eq_nil_of_length_eq_zero hl]
 | f :: fr, cs, cs', hl, h => by
   simp only [Lay.lens] at hl
   simp only [raws, VCs] at h
   obtain ⟨f', fr', c1, c2, e, rfl, h3, h4, h5⟩ := h
   injection e with e1 e2
   subst e1; subst e2
   rw [rawV_cells f _ c1 (by simp; omega) h4, raws_cells fr _ c2 (by simp; omega) h5]
   exact List.take_append_drop _ _
end
theorem rawV_isAgg (l : Lay) (cs : List Value) : (rawV l cs).isAgg = l.ag := by cases l <;> rfl
theorem rawV_known (l : Lay) (cs : List Value) : (rawV l cs).known = true := by cases l <;> rfl
theorem VCs_raws {β : Beta} {S : Nat → Prop} {w : World} {l : Lay} : ∀ (css : List (List Value)) (cs : List Value), (∀ c ∈ css, c.length = l.len) → VCs β S w (List.replicate css.length l) (css.map (rawV l)) cs → cs = css.flatten
 | [], cs, _, h => by
   simp only [List.map_nil, VCs] at h
   simpa using h.2
 | c :: css, cs, hl, h => by
   simp only [List.map_cons, List.length_cons, List.replicate_succ, VCs] at h
   obtain ⟨f', fr', c1, c2, e, rfl, h3, h4, h5⟩ := h
   injection e with e1 e2
   subst e1; subst e2
   rw [rawV_cells l c c1 (hl c (by simp)) h4, VCs_raws css c2 (fun c hc => hl c (by simp [hc])) h5]
   simp
mutual
theorem Tr_scalar {w : World} : ∀ (d : D) (cs : List Value) (M : List Nat), Tr w d cs M → ∀ x ∈ cs, Value.scalar x = true
 | .c x, cs, M, h => by
   simp only [Tr] at h
   rw [h.1]
   intro y hy
   rw [List.mem_singleton] at hy
   rw [hy]; exact h.2.1
 | .agg fs ds, cs, M, h => by
   simp only [Tr] at h
   exact Trs_scalar ds fs cs M h
 | .sl l xs, cs, M, h => by
   simp only [Tr] at h
   rcases h with ⟨rfl, _⟩ | ⟨b, Cp, cur, ty, vs, M', _, _, rfl, _⟩ <;> (intro y hy; rw [List.mem_singleton] at hy; rw [hy]; rfl)
 | .rp _ _ _, cs, M, h => by simp only [Tr] at h
 | .fn _ _, cs, M, h => by simp only [Tr] at h
theorem Trs_scalar {w : World} : ∀ (ds : List D) (fs : List Lay) (cs : List Value) (M : List Nat), Trs w fs ds cs M → ∀ x ∈ cs, Value.scalar x = true
 | [], fs, cs, M, h => by
   simp only [Trs] at h
   rw [h.2.1]; simp
 | d :: ds, fs, cs, M, h => by
   simp only [Trs] at h
   obtain ⟨f, fr, c1, c2, M1, M2, h1, rfl, h3, rfl, h5, h6, h7⟩ := h
   intro x hx
   rcases List.mem_append.1 hx with hx | hx
   ·exact Tr_scalar d c1 M1 h6 x hx
   ·exact Trs_scalar ds fr c2 M2 h7 x hx
end
theorem Tr_len {w : World} {d : D} {cs : List Value} {M : List Nat} (h : Tr w d cs M) : cs.length = d.len? := DC_len (S := fun _ => True) (Tr_DC d cs M (fun _ _ => trivial) h)
def boxBlk (L : Hp) (β : Beta) (b : Nat) : Prop := ∃ i bx c, L[i]? = some (some bx) ∧ β i = some (some (b, c))
section
variable {P : Program} {C : Cx} {n : Nat} {f : Fr} {L : Hp} {Q : AQ} {ops : Array Oper} {qt : List Nat} {rest : List Oper} {dst : Option Tmp} {ty : TypeId} {pos : String} {after : Array Edge}
theorem Rel.restart {a : Act} {w : World} {β : Beta} {S : Nat → Prop} (h : Rel C n f L a w β S) : CExt C ⟨w, boxBlk L β, S⟩ ∧ Rel ⟨w, boxBlk L β, S⟩ n f L a w β S :=
 ⟨⟨h.pres, fun b ⟨i, bx, c, hL, hb⟩ => h.own i bx b c hL hb, h.s0, h.fz⟩, ⟨h.df, h.sz, h.fr, h.hp, fun i bx b c hL hb => .inl ⟨i, bx, c, hL, hb⟩, fun b hb => .inl hb, fun b hb => hb, Pres.refl _ _⟩⟩
structure Has (B : Nat) (C : Cx) (d : D) (cs : List Value) (K : List Nat) : Prop where
 tr : Tr C.w0 d cs K
 dm : ∀ b ∈ K, ¬ C.Dm b
 s0 : ∀ b ∈ K, ¬ C.S0 b
 lo : ∀ b ∈ K, B ≤ b
structure HasL (B : Nat) (C : Cx) (l : Lay) (css : List (List Value)) (ds : List D) (K : List Nat) : Prop where
 tr : Trs C.w0 (List.replicate ds.length l) ds css.flatten K
 len : css.length = ds.length
 each : ∀ c ∈ css, c.length = l.len
 dm : ∀ b ∈ K, ¬ C.Dm b
 s0 : ∀ b ∈ K, ¬ C.S0 b
 lo : ∀ b ∈ K, B ≤ b
theorem keep_ext {C C' : Cx} (h : CExt C C') {K : List Nat} (lt : ∀ b ∈ K, b < C.w0.heap.size) (dm : ∀ b ∈ K, ¬ C.Dm b) (s0 : ∀ b ∈ K, ¬ C.S0 b) : (∀ b ∈ K, C'.w0.heap[b]? = C.w0.heap[b]?) ∧ (∀ b ∈ K, ¬ C'.Dm b) ∧ (∀ b ∈ K, ¬ C'.S0 b) := by
 refine ⟨fun b hb => h.pres.block b (lt b hb) (dm b hb), fun b hb hd => ?_, fun b hb hd => ?_⟩
 ·rcases h.dm b hd with h1 | h1
  ·exact dm b hb h1
  ·have := lt b hb; omega
 ·rcases h.fz b hd with h1 | h1 | h1
  ·exact s0 b hb h1
  ·have := lt b hb; omega
  ·exact dm b hb h1
theorem Has.ext {B : Nat} {C C' : Cx} {d : D} {cs : List Value} {K : List Nat} (k : Has B C d cs K) (h : CExt C C') : Has B C' d cs K := by
 obtain ⟨h1, h2, h3⟩ := keep_ext h (Tr_lt _ _ _ k.tr) k.dm k.s0
 exact ⟨Tr_keep _ _ _ h1 k.tr, h2, h3, k.lo⟩
theorem HasL.ext {B : Nat} {C C' : Cx} {l : Lay} {css : List (List Value)} {ds : List D} {K : List Nat} (k : HasL B C l css ds K) (h : CExt C C') : HasL B C' l css ds K := by
 obtain ⟨h1, h2, h3⟩ := keep_ext h (Trs_lt _ _ _ _ k.tr) k.dm k.s0
 exact ⟨Trs_keep _ _ _ _ h1 k.tr, k.len, k.each, h2, h3, k.lo⟩
theorem Has.le {B B' : Nat} {C : Cx} {d : D} {cs : List Value} {K : List Nat} (k : Has B C d cs K) (h : B' ≤ B) : Has B' C d cs K := ⟨k.tr, k.dm, k.s0, fun b hb => Nat.le_trans h (k.lo b hb)⟩
theorem HasL.nil {B : Nat} {C : Cx} {l : Lay} : HasL B C l [] [] [] := ⟨by simp [Trs], rfl, by simp, by simp, by simp, by simp⟩
theorem rep_snoc {A : Type} (k : Nat) (l : A) : List.replicate (k + 1) l = List.replicate k l ++ [l] := List.replicate_succ'
theorem Trs_one {w : World} {d : D} {l : Lay} {cs : List Value} {K : List Nat} (h : Tr w d cs K) (hl : cs.length = l.len) : Trs w [l] [d] cs K := by
 simp only [Trs]
 exact ⟨l, [], cs, [], K, [], rfl, by simp, hl, by simp, by simp, h, rfl, rfl, rfl⟩
theorem HasL.snoc {B : Nat} {C C' : Cx} {l : Lay} {css : List (List Value)} {ds : List D} {K K' : List Nat} {d : D} {cs : List Value} (h : HasL B C l css ds K) (hx : CExt C C') (k : Has C.w0.heap.size C' d cs K') (hB : B ≤ C.w0.heap.size) (hl : d.len? = l.len) : HasL B C' l (css ++ [cs]) (ds ++ [d]) (K ++ K') := by
 have h' := h.ext hx
 have hlt := Trs_lt _ _ _ _ h.tr
 have hcs := (Tr_len k.tr).trans hl
 refine ⟨?_, by simp [h.len], ?_, ?_, ?_, ?_⟩
 ·rw [List.length_append, List.length_singleton, rep_snoc, List.flatten_append]
  refine Trs_app _ _ _ _ h'.tr ?_ fun b hb hb2 => by have := hlt b hb; have := k.lo b hb2; omega
  simpa using Trs_one k.tr hcs
 all_goals
  intro b hb
  rcases List.mem_append.1 hb with hb | hb
 ·exact h.each b hb
 ·rw [List.mem_singleton] at hb; rw [hb]; exact hcs
 ·exact h'.dm b hb
 ·exact k.dm b hb
 ·exact h'.s0 b hb
 ·exact k.s0 b hb
 ·exact h.lo b hb
 ·exact Nat.le_trans hB (k.lo b hb)
def OCall (P : Program) (k : FuncId) (ds : List D) (r : D) : Prop :=
 ∀ (w : World) (S : Nat → Prop) (xs : List Value), (∀ b, S b → b < w.heap.size) → Tab P S w → All2 (RD S w) ds xs →
  Calls P k xs.toArray w fun e w' => ∃ x M, e = .returned x ∧ Tr w' r x.cells.toList M ∧ r.isAgg = isAggV x ∧ (∀ b ∈ M, w.heap.size ≤ b) ∧ Pres (fun _ => False) w w'
theorem OCall.pcall {k : FuncId} {ds : List D} {r : D} (h : OCall P k ds r) : PCall P k ds (· = [r]) := fun w S xs hS hT hd =>
 (h w S xs hS hT hd).mono fun e w' ⟨x, M, h1, h2, h3, h4, h5⟩ => by
   have hlt := Tr_lt _ _ _ h2
   refine ⟨x, [r], fun b => S b ∨ b ∈ M, h1, rfl, ⟨Tr_DC _ _ M (fun b hb => .inr hb) h2, h3⟩, fun b hb => .inl hb, ?_, h5⟩
   rintro b (hb | hb)
   ·exact ⟨by have := hS b hb; have := h5.size; omega, .inl hb⟩
   ·exact ⟨hlt b hb, .inr (h4 b hb)⟩
theorem Rel.called0 {a : Act} {w w' : World} {β : Beta} {S : Nat → Prop} (h : Rel C n f L a w β S) (hp : Pres (fun _ => False) w w') : Rel C n f L a w' β S :=
 h.called hp (fun _ h => h) fun b hb => ⟨by have := h.hp.fz b hb; have := hp.size; omega, .inl hb⟩
structure Got (C : Cx) (r : D) (l : Lay) (C' : Cx) (cs : List Value) (K : List Nat) : Prop where
 ext : CExt C C'
 has : Has C.w0.heap.size C' r cs K
 len : cs.length = l.len
end
end Go.Eng
set_option linter.unusedVariables false
set_option linter.unusedSimpArgs false
namespace Go.Eng
mutual
def rawD : Lay → List Value → D
 | .one, cs => .c (cs.headD undef)
 | .st fs, cs => .agg fs (rawDs fs cs)
def rawDs : List Lay → List Value → List D
 | [], _ => []
 | f :: fr, cs => rawD f (cs.take f.len) :: rawDs fr (cs.drop f.len)
end
mutual
theorem rawD_DC {β : Beta} {S : Nat → Prop} {w : World} : ∀ (l : Lay) (cs cs' : List Value), DC S w (rawD l cs) cs' ↔ VC β S w (rawV l cs) cs'
 | .one, cs, cs' => by simp only [rawD, rawV, VC]
 | .st fs, cs, cs' => by
   simp only [rawD, rawV, VC, DC]
   exact rawDs_DC fs fs cs cs'
theorem rawDs_DC {β : Beta} {S : Nat → Prop} {w : World} : ∀ (fs fs' : List Lay) (cs cs' : List Value), DCs S w fs' (rawDs fs cs) cs' ↔ VCs β S w fs' (raws fs cs) cs'
 | [], fs', cs, cs' => by simp only [rawDs, raws, DCs, VCs]
 | f :: fr, fs', cs, cs' => by
   simp only [rawDs, raws, DCs, VCs]
   constructor
   ·rintro ⟨g, gr, c1, c2, h1, h2, h3, h4, h5⟩
    exact ⟨g, gr, c1, c2, h1, h2, h3, (rawD_DC f _ c1).1 h4, (rawDs_DC fr gr _ c2).1 h5⟩
   ·rintro ⟨g, gr, c1, c2, h1, h2, h3, h4, h5⟩
    exact ⟨g, gr, c1, c2, h1, h2, h3, (rawD_DC f _ c1).2 h4, (rawDs_DC fr gr _ c2).2 h5⟩
end
theorem DCs_rawD {S : Nat → Prop} {w : World} {l : Lay} : ∀ (css : List (List Value)) (cs : List Value), (∀ c ∈ css, c.length = l.len) → DCs S w (List.replicate css.length l) (css.map (rawD l)) cs → cs = css.flatten
 | [], cs, _, h => by
   simp only [List.map_nil, DCs] at h
   simpa using h.2
 | c :: css, cs, hl, h => by
   simp only [List.map_cons, List.length_cons, List.replicate_succ, DCs] at h
   obtain ⟨f', fr', c1, c2, e, rfl, h3, h4, h5⟩ := h
   injection e with e1 e2
   subst e1; subst e2
   rw [rawV_cells (β := fun _ => none) l c c1 (hl c (by simp)) ((rawD_DC l c c1).1 h4), DCs_rawD css c2 (fun c hc => hl c (by simp [hc])) h5]
   simp
theorem DCs_rawD_mk {S : Nat → Prop} {w : World} {l : Lay} : ∀ (css : List (List Value)), (∀ c ∈ css, c.length = l.len) → (∀ x ∈ css.flatten, Value.scalar x = true) → DCs S w (List.replicate css.length l) (css.map (rawD l)) css.flatten
 | [], _, _ => by simp [DCs]
 | c :: css, hl, hs => by
   simp only [List.length_cons, List.replicate_succ, List.map_cons, List.flatten_cons, DCs]
   exact ⟨_, _, c, css.flatten, rfl, rfl, hl c (by simp), (rawD_DC (β := fun _ => none) l c c).2 (rawV_VC l c (hl c (by simp)) (fun x hx => hs x (by simp [hx]))), DCs_rawD_mk css (fun c hc => hl c (by simp [hc])) (fun x hx => hs x (by simp only [List.flatten_cons, List.mem_append]; exact .inr hx))⟩
mutual
def D.flat : D → Bool
 | .c _ => true
 | .agg _ ds => D.flats ds
 | .sl _ _ => false
 | .rp _ _ _ => false
 | .fn _ _ => false
def D.flats : List D → Bool
 | [] => true
 | d :: ds => d.flat && D.flats ds
end
mutual
theorem DC_flat {S : Nat → Prop} {w : World} : ∀ (d : D) (cs : List Value), d.flat = true → DC S w d cs → Tr w d cs []
 | .c x, cs, _, h => by
   simp only [DC] at h
   simp only [Tr]
   exact ⟨h.1, h.2, trivial⟩
 | .agg fs ds, cs, hf, h => by
   simp only [D.flat] at hf
   simp only [DC] at h
   simp only [Tr]
   exact DCs_flat ds fs cs hf h
 | .sl _ _, _, hf, _ => by simp [D.flat] at hf
 | .rp _ _ _, _, hf, _ => by simp [D.flat] at hf
 | .fn _ _, _, hf, _ => by simp [D.flat] at hf
theorem DCs_flat {S : Nat → Prop} {w : World} : ∀ (ds : List D) (fs : List Lay) (cs : List Value), D.flats ds = true → DCs S w fs ds cs → Trs w fs ds cs []
 | [], fs, cs, _, h => by
   simp only [DCs] at h
   simp only [Trs]
   exact ⟨h.1, h.2, trivial⟩
 | d :: ds, fs, cs, hf, h => by
   simp only [D.flats, Bool.and_eq_true] at hf
   simp only [DCs] at h
   obtain ⟨f, fr, c1, c2, h1, h2, h3, h4, h5⟩ := h
   simp only [Trs]
   exact ⟨f, fr, c1, c2, [], [], h1, h2, h3, rfl, by simp, DC_flat d c1 hf.1 h4, DCs_flat ds fr c2 hf.2 h5⟩
end
mutual
inductive OwV (B : Nat) (C : Cx) (L : Hp) : V → D → List Nat → List Nat → Prop
 | c {x : Value} : OwV B C L (.d (.c x)) (.c x) [] []
 | nil {l : Lay} : OwV B C L nilsl (.sl l []) [] []
 | raw {l : Lay} {d : D} {cs : List Value} {K : List Nat} : Has B C d cs K → cs.length = l.len → OwV B C L (rawV l cs) d [] K
 | agg {fs : List Lay} {vs : List V} {ds : List D} {I K : List Nat} : OwVs B C L fs vs ds I K → OwV B C L (.agg fs vs) (.agg fs ds) I K
 | ref {l : Lay} {i m : Nat} {bx : Box} {ds : List D} {I K : List Nat} : L[i]? = some (some bx) → bx.l = l → bx.es.length = m → OwVs B C L (List.replicate m l) bx.es ds I K → i ∉ I → OwV B C L (.ref l i 0 m) (.sl l ds) (i :: I) K
 | flat {d : D} : d.flat = true → OwV B C L (.d d) d [] []
 | rawd {l : Lay} {d : D} {cs : List Value} {K : List Nat} : Has B C d cs K → cs.length = l.len → OwV B C L (.d (rawD l cs)) d [] K
inductive OwVs (B : Nat) (C : Cx) (L : Hp) : List Lay → List V → List D → List Nat → List Nat → Prop
 | nil : OwVs B C L [] [] [] [] []
 | cons {f : Lay} {fs : List Lay} {v : V} {vs : List V} {d : D} {ds : List D} {I I' K K' : List Nat} : OwV B C L v d I K → OwVs B C L fs vs ds I' K' → (∀ i ∈ I, i ∉ I') → (∀ b ∈ K, b ∉ K') → OwVs B C L (f :: fs) (v :: vs) (d :: ds) (I ++ I') (K ++ K')
 | raws {l : Lay} {css : List (List Value)} {ds : List D} {K : List Nat} : HasL B C l css ds K → OwVs B C L (List.replicate css.length l) (css.map (rawV l)) ds [] K
 | scal {l : Lay} {xs : List Value} : OwVs B C L (List.replicate xs.length l) (xs.map fun x => V.d (.c x)) (xs.map D.c) [] []
 | flats {fs : List Lay} {ds : List D} : D.flats ds = true → OwVs B C L fs (ds.map V.d) ds [] []
 | rawds {l : Lay} {css : List (List Value)} {ds : List D} {K : List Nat} : HasL B C l css ds K → OwVs B C L (List.replicate css.length l) ((css.map (rawD l)).map V.d) ds [] K
end
section
variable {P : Program} {B : Nat} {C : Cx} {n : Nat} {f : Fr} {L : Hp} {a : Act} {w : World} {β : Beta} {S : Nat → Prop}
mutual
theorem OwV_K : ∀ {v : V} {d : D} {I K : List Nat}, OwV B C L v d I K → ∀ b ∈ K, ¬ C.Dm b ∧ b < C.w0.heap.size ∧ B ≤ b
 | _, _, _, _, .c, b, hb => by cases hb
 | _, _, _, _, .nil, b, hb => by cases hb
 | _, _, _, _, .raw h _, b, hb => ⟨h.dm b hb, Tr_lt _ _ _ h.tr b hb, h.lo b hb⟩
 | _, _, _, _, .agg h, b, hb => OwVs_K h b hb
 | _, _, _, _, .ref _ _ _ h _, b, hb => OwVs_K h b hb
 | _, _, _, _, .flat _, b, hb => by cases hb
 | _, _, _, _, .rawd h _, b, hb => ⟨h.dm b hb, Tr_lt _ _ _ h.tr b hb, h.lo b hb⟩
theorem OwVs_K : ∀ {fs : List Lay} {vs : List V} {ds : List D} {I K : List Nat}, OwVs B C L fs vs ds I K → ∀ b ∈ K, ¬ C.Dm b ∧ b < C.w0.heap.size ∧ B ≤ b
 | _, _, _, _, _, .nil, b, hb => by cases hb
 | _, _, _, _, _, .cons h k _ _, b, hb => by
   rcases List.mem_append.1 hb with hb | hb
   ·exact OwV_K h b hb
   ·exact OwVs_K k b hb
 | _, _, _, _, _, .raws h, b, hb => ⟨h.dm b hb, Trs_lt _ _ _ _ h.tr b hb, h.lo b hb⟩
 | _, _, _, _, _, .scal, b, hb => by cases hb
 | _, _, _, _, _, .flats _, b, hb => by cases hb
 | _, _, _, _, _, .rawds h, b, hb => ⟨h.dm b hb, Trs_lt _ _ _ _ h.tr b hb, h.lo b hb⟩
end
def Foot (L : Hp) (β : Beta) (I K : List Nat) (b : Nat) : Prop := b ∈ K ∨ ∃ i ∈ I, ∃ bx c, L[i]? = some (some bx) ∧ β i = some (some (b, c))
theorem Foot_apart (hr : Rel C n f L a w β S) {I I' K K' : List Nat} (hK : ∀ b ∈ K, ¬ C.Dm b ∧ b < C.w0.heap.size ∧ B ≤ b) (hK' : ∀ b ∈ K', ¬ C.Dm b ∧ b < C.w0.heap.size ∧ B ≤ b) (hi : ∀ i ∈ I, i ∉ I') (hb : ∀ b ∈ K, b ∉ K') {b : Nat} (h : Foot L β I K b) : ¬ Foot L β I' K' b := by
 intro h'
 have box : ∀ b, (¬ C.Dm b ∧ b < C.w0.heap.size ∧ B ≤ b) → ∀ i bx c, L[i]? = some (some bx) → β i = some (some (b, c)) → False := by
  intro b ⟨h1, h2, _⟩ i bx c hL hβ
  rcases hr.own i bx b c hL hβ with h3 | h3
  ·exact h1 h3
  ·omega
 rcases h with h | ⟨i, hi1, bx, c, hL, hβ⟩
 ·rcases h' with h' | ⟨i', hi1', bx', c', hL', hβ'⟩
  ·exact hb b h h'
  ·exact box b (hK b h) i' bx' c' hL' hβ'
 ·rcases h' with h' | ⟨i', hi1', bx', c', hL', hβ'⟩
  ·exact box b (hK' b h') i bx c hL hβ
  ·have := hr.hp.inj i i' b bx bx' c c' hL hL' hβ hβ'
   subst this
   exact hi i hi1 hi1'
theorem Trs_scal {w : World} {l : Lay} : ∀ (xs : List Value) (cs : List Value), VCs β S w (List.replicate xs.length l) (xs.map fun x => V.d (.c x)) cs → Trs w (List.replicate xs.length l) (xs.map D.c) cs []
 | [], cs, h => by
   simp only [List.map_nil, List.length_nil, List.replicate_zero, VCs, Trs] at h ⊢
   exact ⟨h.1, h.2, trivial⟩
 | x :: xs, cs, h => by
   simp only [List.map_cons, List.length_cons, List.replicate_succ, VCs, Trs] at h ⊢
   obtain ⟨f', fr', c1, c2, e, rfl, h3, h4, h5⟩ := h
   injection e with e1 e2
   subst e1; subst e2
   simp only [VC, DC] at h4
   refine ⟨l, _, c1, c2, [], [], rfl, rfl, h3, rfl, by simp, ?_, Trs_scal xs c2 h5⟩
   simp only [Tr]
   exact ⟨h4.1, h4.2, trivial⟩
mutual
theorem OwV_sound (hr : Rel C n f L a w β S) : ∀ {v : V} {d : D} {I K : List Nat}, OwV B C L v d I K → ∀ cs, VC β S w v cs → ∃ M, Tr w d cs M ∧ ∀ b ∈ M, Foot L β I K b
 | _, _, _, _, .c, cs, h => by
   simp only [VC, DC] at h
   exact ⟨[], by simp only [Tr]; exact ⟨h.1, h.2, trivial⟩, by simp⟩
 | _, _, _, _, .nil, cs, h => by
   simp only [VC, DC] at h
   exact ⟨[], by simp only [Tr]; exact .inl ⟨h.1, trivial, trivial⟩, by simp⟩
 | _, _, _, _, .raw (l := l) (cs := cs0) (K := K) h hl, cs, hv => by
   have := rawV_cells l cs0 cs hl hv
   subst this
   refine ⟨K, Tr_keep _ _ _ (fun b hb => hr.pres.block b (Tr_lt _ _ _ h.tr b hb) (h.dm b hb)) h.tr, fun b hb => .inl hb⟩
 | _, _, _, _, .agg k, cs, h => by
   simp only [VC] at h
   obtain ⟨M, h1, h2⟩ := OwVs_sound hr k cs h
   exact ⟨M, by simp only [Tr]; exact h1, h2⟩
 | _, _, _, _, .ref (l := l) (i := i) (bx := bx) (ds := ds) (I := I) (K := K) hL hbl hm k hni, cs, h => by
   simp only [VC] at h
   obtain ⟨hli, hbr⟩ := hr.hp.bx i bx hL
   subst hbl; subst hm
   have hlen : bx.es.length = ds.length := OwVs_length k
   rcases h with ⟨h1, h2, h3, h4⟩ | ⟨b, Cp, h1, h2, h3⟩
   ·refine ⟨[], ?_, by simp⟩
    simp only [Tr]
    exact .inl ⟨h2, List.eq_nil_of_length_eq_zero (by omega), trivial⟩
   ·rcases hbr with ⟨q1, _⟩ | ⟨b', C', cur, dsv, q1, q2, q3, q4, q5, q6⟩
    ·rw [q1] at h1; cases h1
    ·rw [q1] at h1
     injection h1 with h1; injection h1 with h1; injection h1 with h1 h1'
     subst h1; subst h1'
     obtain ⟨M, t1, t2⟩ := OwVs_sound hr k dsv q5
     have hap : b' ∉ M := fun hb => by
      have h1 := t2 b' hb
      refine Foot_apart (I := [i]) (K := []) (B := B) hr (by simp) (OwVs_K k) (by simpa using hni) (by simp) (.inr ⟨i, by simp, bx, C', hL, q1⟩) h1
     refine ⟨b' :: M, ?_, ?_⟩
     ·simp only [Tr]
      refine .inr ⟨b', C', cur, bx.ty.t, dsv, M, rfl, hap, ?_, q2, q3, by omega, q4.2, by omega, by rw [← hlen]; exact t1, q6⟩
      rw [h2, hlen]
      simp
     ·intro b hb
      rcases List.mem_cons.1 hb with rfl | hb
      ·exact .inr ⟨i, by simp, bx, C', hL, q1⟩
      ·rcases t2 b hb with h5 | ⟨i', h5, h6⟩
       ·exact .inl h5
       ·exact .inr ⟨i', by simp [h5], h6⟩
 | _, _, _, _, .flat (d := d) hf, cs, h => by
   simp only [VC] at h
   exact ⟨[], DC_flat d cs hf h, by simp⟩
 | _, _, _, _, .rawd (l := l) (cs := cs0) (K := K) h hl, cs, hv => by
   simp only [VC] at hv
   have := rawV_cells l cs0 cs hl ((rawD_DC (β := β) l cs0 cs).1 hv)
   subst this
   refine ⟨K, Tr_keep _ _ _ (fun b hb => hr.pres.block b (Tr_lt _ _ _ h.tr b hb) (h.dm b hb)) h.tr, fun b hb => .inl hb⟩
theorem OwVs_sound (hr : Rel C n f L a w β S) : ∀ {fs : List Lay} {vs : List V} {ds : List D} {I K : List Nat}, OwVs B C L fs vs ds I K → ∀ cs, VCs β S w fs vs cs → ∃ M, Trs w fs ds cs M ∧ ∀ b ∈ M, Foot L β I K b
 | _, _, _, _, _, .nil, cs, h => by
   simp only [VCs] at h
   exact ⟨[], by simp only [Trs]; exact ⟨trivial, h.2, trivial⟩, by simp⟩
 | _, _, _, _, _, .cons (I := I) (I' := I') (K := K) (K' := K') k1 k2 hi hb, cs, h => by
   simp only [VCs] at h
   obtain ⟨f', fr', c1, c2, e, rfl, h3, h4, h5⟩ := h
   injection e with e1 e2
   subst e1; subst e2
   obtain ⟨M1, t1, t2⟩ := OwV_sound hr k1 c1 h4
   obtain ⟨M2, t3, t4⟩ := OwVs_sound hr k2 c2 h5
   refine ⟨M1 ++ M2, ?_, ?_⟩
   ·simp only [Trs]
    exact ⟨_, _, c1, c2, M1, M2, rfl, rfl, h3, rfl, fun b h1 h2 => Foot_apart hr (OwV_K k1) (OwVs_K k2) hi hb (t2 b h1) (t4 b h2), t1, t3⟩
   ·intro b hm
    rcases List.mem_append.1 hm with hm | hm
    ·rcases t2 b hm with h5 | ⟨i', h5, h6⟩
     ·exact .inl (List.mem_append_left _ h5)
     ·exact .inr ⟨i', List.mem_append_left _ h5, h6⟩
    ·rcases t4 b hm with h5 | ⟨i', h5, h6⟩
     ·exact .inl (List.mem_append_right _ h5)
     ·exact .inr ⟨i', List.mem_append_right _ h5, h6⟩
 | _, _, _, _, _, .raws (l := l) (css := css) (K := K) h, cs, hv => by
   have := VCs_raws css cs h.each hv
   subst this
   refine ⟨K, ?_, fun b hb => .inl hb⟩
   rw [h.len]
   exact Trs_keep _ _ _ _ (fun b hb => hr.pres.block b (Trs_lt _ _ _ _ h.tr b hb) (h.dm b hb)) h.tr
 | _, _, _, _, _, .scal (l := l) (xs := xs), cs, hv => ⟨[], Trs_scal xs cs hv, by simp⟩
 | _, _, _, _, _, .flats (fs := fs) (ds := ds) hf, cs, hv => ⟨[], DCs_flat ds fs cs hf ((VCs_d ds fs cs).1 hv), by simp⟩
 | _, _, _, _, _, .rawds (l := l) (css := css) (K := K) h, cs, hv => by
   have := DCs_rawD css cs h.each ((VCs_d _ _ cs).1 hv)
   subst this
   refine ⟨K, ?_, fun b hb => .inl hb⟩
   rw [h.len]
   exact Trs_keep _ _ _ _ (fun b hb => hr.pres.block b (Trs_lt _ _ _ _ h.tr b hb) (h.dm b hb)) h.tr
theorem OwVs_length : ∀ {fs : List Lay} {vs : List V} {ds : List D} {I K : List Nat}, OwVs B C L fs vs ds I K → vs.length = ds.length
 | _, _, _, _, _, .nil => rfl
 | _, _, _, _, _, .cons _ h _ _ => by simp [OwVs_length h]
 | _, _, _, _, _, .raws h => by simp [h.len]
 | _, _, _, _, _, .scal => by simp
 | _, _, _, _, _, .flats _ => by simp
 | _, _, _, _, _, .rawds h => by simp [h.len]
end
end
def retO (fn : Func) (P : Program) (w0 : World) (r : D) (a : Act) (w' : World) : Prop :=
 a.defers = [] ∧ ∃ x, (results fn a.tmps).run P w' = .ok x w' ∧ ∃ M, Tr w' r x.cells.toList M ∧ r.isAgg = isAggV x ∧ (∀ b ∈ M, w0.heap.size ≤ b) ∧ Pres (fun _ => False) w0 w'
def retOQ (fn : Func) (P : Program) (w0 : World) (r : D) : AQ := fun e a w => ends e = true ∧ retO fn P w0 r a w
section
variable {P : Program} {C : Cx} {n : Nat} {f : Fr} {L : Hp}
theorem retO_fin {C0 : Cx} {fn : Func} {v : V} {r : D} {I K : List Nat} (hx : CExt C0 C) (hdm : ∀ b, ¬ C0.Dm b) (hrv : RetV P f L fn.results.toList [v]) (how : OwV C0.w0.heap.size C L v r I K) (hag : v.isAgg = r.isAgg) (hk : v.known = true) : Fin C n (retO fn P C0.w0 r) f L := by
 intro a w' β' S' hr
 have hr0 := hr.back hx
 obtain ⟨ys, hy, hall⟩ := RetV_run hr hrv
 have hrun := results_run (fn := fn) hy
 cases hall with
 | cons h1 h2 =>
   rename_i y ys
   cases h2
   rcases h1 with h1 | ⟨h1, h2⟩
   ·rw [h1] at hk; cases hk
   ·obtain ⟨M, t1, t2⟩ := OwV_sound hr how _ h1
    refine ⟨hr.df, y, by simpa using hrun, M, t1, by rw [← hag, h2], fun b hb => ?_, ⟨hr0.pres.os, hr0.pres.tape, hr0.pres.output, hr0.pres.size, fun b hb _ => hr0.pres.block b hb (hdm b)⟩⟩
    rcases t2 b hb with h5 | ⟨i, _, bx, c, hL, hβ⟩
    ·exact (OwV_K how b h5).2.2
    ·rcases hr0.own i bx b c hL hβ with h6 | h6
     ·exact (hdm b h6).elim
     ·exact h6
theorem fr0_rel {w : World} {S : Nat → Prop} {ds : List D} {xs : List Value} (hlen : ds.length ≤ n) (hS : ∀ b, S b → b < w.heap.size) (hd : All2 (RD S w) ds xs) :
 Rel ⟨w, fun _ => False, S⟩ n (fr0 ds) [] { tmps := xs.toArray ++ Array.replicate (n - xs.toArray.size) undef, defers := [] } w (fun _ => none) S := by
 have hxl : xs.length = ds.length := by
  clear hlen
  induction hd with
  | nil => rfl
  | cons _ _ ih => simp [ih]
 have hget : ∀ (ds : List D) (xs : List Value), All2 (RD S w) ds xs → ∀ (i : Nat) (d : D), ds[i]? = some d → ∃ x : Value, xs[i]? = some x ∧ RD S w d x := by
  intro ds xs h
  induction h with
  | nil => intro i d h; simp at h
  | cons h1 _ ih =>
    intro i d hi
    cases i with
    | zero => simp at hi; subst hi; exact ⟨_, rfl, h1⟩
    | succ i => simp at hi; simpa using ih i d hi
 refine ⟨rfl, ?_, fun i => ?_, ⟨?_, ?_, ?_, hS, fun _ _ => rfl, fun i bx q hi => by simp at hi⟩, ?_, fun b hb => .inl hb, fun b hb => hb, Pres.refl _ _⟩
 ·simp; omega
 ·show VR _ _ _ (match ds[i]? with | some d => V.d d | none => .any) _
  cases e : ds[i]? with
  | none => exact VR_any ..
  | some d =>
    obtain ⟨x, hx, hrd⟩ := hget ds xs hd i d e
    have : (xs.toArray ++ Array.replicate (n - xs.toArray.size) undef).getD i undef = x := by
     have hi := lt_of_get hx
     rw [Array.getD_eq_getD_getElem?, Array.getElem?_append_left (by simpa using hi), List.getElem?_toArray, hx]
     rfl
    simp only
    rw [this]
    exact VR0_of_RD hrd
 ·intro i b h; simp at h
 ·intro i j b bx bx' c c' h; simp at h
 ·intro i bx b c h; simp at h
 ·intro i bx b c h; simp at h
theorem OCall_of {k : FuncId} {fn : Func} {c : Code} {ds : List D} {r : D} (hf : P.funcs[k]? = some fn) (hb : fn.body = some c) (hn : fn.ntmps = n) (hlen : ds.length ≤ n) (h : ∀ C0, (∀ b, ¬ C0.Dm b) → CT P C0 → AC P C0 n c (retOQ fn P C0.w0 r) (fr0 ds) []) : OCall P k ds r := by
 intro w S xs hS hT hd
 refine calls_of_wp hf hb ?_
 subst hn
 refine wp_mono (h ⟨w, fun _ => False, S⟩ (fun _ h => h) (CT.start hT fun _ _ h => h) _ w _ S (fr0_rel hlen hS hd)) ?_
 rintro e a w' ⟨hend, h1, x, h2, M, h3, h4, h5, h6⟩
 have fin : a.defers = [] ∧ ∃ v, (results fn a.tmps).run P w' = .ok v w' ∧ ∃ x M, Ending.returned v = .returned x ∧ Tr w' r x.cells.toList M ∧ r.isAgg = isAggV x ∧ (∀ b ∈ M, w.heap.size ≤ b) ∧ Pres (fun _ => False) w w' :=
  ⟨h1, x, h2, x, M, rfl, h3, h4, h5, h6⟩
 cases e with
 | normal => exact fin
 | ret => exact fin
 | _ => cases hend
theorem reto_ok {C0 : Cx} {fn : Func} {v : V} {r : D} {I K : List Nat} (hx : CExt C0 C) (hdm : ∀ b, ¬ C0.Dm b) (hrv : RetV P f L fn.results.toList [v]) (how : OwV C0.w0.heap.size C L v r I K) (hag : v.isAgg = r.isAgg) (hk : v.known = true) : Fin C n (retOQ fn P C0.w0 r .ret) f L := fun a w β S hr => ⟨rfl, retO_fin hx hdm hrv how hag hk a w β S hr⟩
end
section
variable {P : Program} {C : Cx} {n : Nat} {ops : Array Oper} {qt : List Nat} {Q : AQ} {f : Fr} {L : Hp} {dst : Option Tmp} {ty : TypeId} {pos : String} {after : Array Edge} {i : Nat} {r : List Nat}
theorem enterX {ks : List Nat} {g : Fr} {St : Type} {mods : St → List (Nat × V)} {Lf : St → Hp} {Inv : Cx → St → Prop} (st : St) (src : List (Option Nat)) (hlen : src.length = (Lf st).length) (hnd : nodupS src = true) (hI : Inv C st)
 (hb : BxTo L src 0 (Lf st)) (hs : SlTo L src f (mods st ++ ks.map fun k => (k, g k))) : Fin C n (Held n fun C' f' L' => ∃ st, Inv C' st ∧ f' = FS ks g (mods st) ∧ L' = Lf st) f L := fun a w β S hr =>
 let ⟨f', L', β', S', hr', h1, h2⟩ := enterS src hlen hnd hb hs a w β S hr; ⟨C, f', L', β', S', hr', st, hI, h1, h2⟩
theorem closeX {ks : List Nat} {g : Fr} {St : Type} {mods : St → List (Nat × V)} {Lf : St → Hp} {μ : St → Nat} {Inv : Cx → St → Prop} {st : St} (st' : St) (src : List (Option Nat)) (hlen : src.length = (Lf st').length) (hnd : nodupS src = true) (hμ : μ st' < μ st) (hI : Inv C st')
 (hb : BxTo L src 0 (Lf st')) (hs : SlTo L src f (mods st' ++ ks.map fun k => (k, g k))) : Fin C n (Held n fun C' f' L' => ∃ st', μ st' < μ st ∧ Inv C' st' ∧ f' = FS ks g (mods st') ∧ L' = Lf st') f L := fun a w β S hr =>
 let ⟨f', L', β', S', hr', h1, h2⟩ := enterS src hlen hnd hb hs a w β S hr; ⟨C, f', L', β', S', hr', st', hμ, hI, h1, h2⟩
end
end Go.Eng
set_option linter.unusedVariables false
set_option linter.unusedSimpArgs false
namespace Go.Eng
def tyPlaces (P : Program) (t : TypeId) : Option (List (Nat × Nat)) := match P.underlying t with
 | some (.struct fs) => fs.toList.mapM (fun fd => (tySize P fd.type).map fun z => (fd.offset, z))
 | _ => none
def layPlaces : Nat → List Lay → List (Nat × Nat)
 | _, [] => []
 | o, f :: fr => (o, f.len) :: layPlaces (o + f.len) fr
theorem layPlaces_get : ∀ (fs : List Lay) (o j : Nat) (l : Lay), fs[j]? = some l → (layPlaces o fs)[j]? = some (o + Lay.lens (fs.take j), l.len)
 | [], o, j, l, h => by simp at h
 | f :: fr, o, 0, l, h => by simp at h; subst h; simp [layPlaces, Lay.lens]
 | f :: fr, o, j + 1, l, h => by
   simp at h
   have := layPlaces_get fr (o + f.len) j l h
   simp [layPlaces, this, Lay.lens, Nat.add_assoc]
section
variable {P : Program} {C : Cx} {n : Nat} {f : Fr} {L : Hp} {dst : Option Tmp} {ty : TypeId} {pos : String} {after : Array Edge} {g : Option (Nat × Bool)}
theorem places_run {t : TypeId} {fields : Array Go.Field} : ∀ {l : List Go.Field} {pl : List (Nat × Nat)}, l.mapM (fun fd => (tySize P fd.type).map fun z => (fd.offset, z)) = some pl → ∀ w, (l.mapM (fun fd => (do pure (fd.offset, ← sizeOf fd.type) : Sem (Nat × Nat)))).run P w = .ok pl w
 | [], pl, h, w => by
   simp only [List.mapM_nil, Option.pure_def, Option.some.injEq] at h
   subst h; rfl
 | fd :: l, pl, h, w => by
   simp only [List.mapM_cons, Option.bind_eq_bind, Option.pure_def, Option.bind_eq_some_iff] at h
   obtain ⟨q, hq, pl', hpl, h⟩ := h
   obtain ⟨z, hz, rfl⟩ := Option.map_eq_some_iff.1 hq
   injection h with h
   subst h
   have := places_run (t := t) (fields := fields) hpl w
   simp only [List.mapM_cons, Sem.run_bind, run_sizeOf' hz, Result.andThen, Sem.run_pure, this]
inductive BS (f : Fr) (fs : List Lay) : List V → List (Nat × Operand) → List V → Prop
 | nil {vs : List V} : BS f fs vs [] vs
 | cons {j : Nat} {x : Operand} {v : V} {l : Lay} {vs vs' : List V} {r : List (Nat × Operand)} : nfV (ev f x) = some v → fs[j]? = some l → v.len? = l.len → BS f fs (vs.set j v) r vs' → BS f fs vs ((j, x) :: r) vs'
theorem nfV_known {v u : V} (h : nfV v = some u) : u.known = true := by
 cases v <;> simp only [nfV, Option.some.injEq] at h <;> first | (subst h; rfl) | cases h
theorem BS_fill {a : Act} {w : World} {β : Beta} {S : Nat → Prop} (hr : Rel C n f L a w β S) {fs : List Lay} : ∀ {vs : List V} {ps : List (Nat × Operand)} {vs' : List V}, BS f fs vs ps vs' → ∀ cells : Array Value, VCs β S w fs vs cells.toList →
 ∃ cells', Instr.fill (fun i => (layPlaces 0 fs)[i]?) cells (ps.map fun q => (q.1, a.eval q.2)) = some cells' ∧ VCs β S w fs vs' cells'.toList
 | _, _, _, .nil, cells, h => ⟨cells, rfl, h⟩
 | _, _, _, .cons (j := j) (x := x) (v := v) (l := l) (vs := vs) hv hl hlen k, cells, h => by
   have hk := nfV_known hv
   have hv := nf hv
   have hvr := rel_ev hr x
   rw [hv] at hvr
   have hne : v ≠ .any := by rintro rfl; cases hk
   have hv0 := known_VR0 hvr hk
   rcases hv0 with hv0 | ⟨hv0, _⟩
   ·exact absurd hv0 hne
   ·have hcl := (VC_len hne hv0).trans hlen
    have hjl : j < vs.length := by
     have := VCs_len _ _ _ h
     have := lt_of_get hl
     omega
    obtain ⟨d1, dm, d3, e1, e2, e3, e4, e5⟩ := VCs_get vs fs cells.toList j l vs[j] h hl (by simp [hjl])
    have hnew := e5 v _ hv0 hcl
    simp only [List.map_cons, Instr.fill, layPlaces_get fs 0 j l hl]
    have hsz : cells.size = d1.length + dm.length + d3.length := by rw [← Array.length_toList, e1]; simp; omega
    have hcs : (a.eval x).cells.size = l.len := by simpa using hcl
    have hno : ¬ ((a.eval x).cells.size ≠ l.len ∨ 0 + Lay.lens (fs.take j) + (a.eval x).cells.size > cells.size) := by
     rintro (h1 | h1)
     ·exact h1 hcs
     ·rw [hsz, hcs, e2, e3] at h1; omega
    rw [if_neg (by simpa using hno)]
    have hf : ((a.eval x).cells.zipIdx.foldl (fun (cs : Array Value) (q : Value × Nat) => cs.setIfInBounds (0 + Lay.lens (fs.take j) + q.2) q.1) cells).toList = d1 ++ (a.eval x).cells.toList ++ d3 := by
     have := foldl_put (0 + Lay.lens (fs.take j)) (a.eval x).cells.toList 0 cells (by rw [hcl, hsz, e2, e3]; omega)
     rw [← Array.foldl_toList, Array.toList_zipIdx]
     simp only [Nat.add_zero] at this
     rw [this, e1]
     have t1 : (d1 ++ dm ++ d3).take (0 + Lay.lens (fs.take j)) = d1 := by
      rw [Nat.zero_add, ← e2, List.append_assoc, List.take_left']
      rfl
     have t2 : (d1 ++ dm ++ d3).drop (0 + Lay.lens (fs.take j) + (a.eval x).cells.toList.length) = d3 := by
      rw [Nat.zero_add, hcl, ← e2, ← e3, ← List.length_append]
      exact List.drop_left' rfl
     rw [t1, t2]
    obtain ⟨cells', q1, q2⟩ := BS_fill hr k _ (by rw [hf]; exact hnew)
    exact ⟨cells', q1, q2⟩
theorem Ev_build {t : TypeId} {parts : Array (Nat × Operand)} {fs : List Lay} {zs : List D} {z : Value} {vs : List V} (hz : tyZero P t = some (some z)) (hzc : cellsDs fs zs = some z.cells.toList) (hp : tyPlaces P t = some (layPlaces 0 fs)) (hb : BS f fs (zs.map V.d) parts.toList vs) :
 Ev P C n ⟨dst, .build t parts, ty, pos, after, g⟩ f L (.agg fs vs) := by
 intro a w β S hr
 have h0 : VCs β S w fs (zs.map V.d) z.cells.toList := by
  have := VC_cells (β := β) (S := S) (w := w) (x := .agg fs zs) (cs := z.cells.toList) (by simpa only [cellsD] using hzc)
  simp only [VC, DC] at this
  have key : ∀ (zs : List D) (fs : List Lay) (cs : List Value), DCs S w fs zs cs → VCs β S w fs (zs.map V.d) cs := by
   intro zs
   induction zs with
   | nil => intro fs cs h; simpa only [List.map_nil, DCs, VCs] using h
   | cons d zs ih =>
     intro fs cs h
     simp only [List.map_cons, DCs, VCs, VC] at h ⊢
     obtain ⟨f, fr, c1, c2, h1, h2, h3, h4, h5⟩ := h
     exact ⟨f, fr, c1, c2, h1, h2, h3, h4, ih fr c2 h5⟩
  exact key zs fs _ this
 obtain ⟨cells', q1, q2⟩ := BS_fill hr hb z.cells h0
 unfold tyPlaces at hp
 split at hp
 ·rename_i fields hu
  have hpl := places_run (P := P) (t := t) (fields := fields) hp w
  have hrun : (execOp a.eval ⟨dst, .build t parts, ty, pos, after, g⟩).run P w = .ok (.value (.agg cells')) w := by
   have hm : (fields.mapM (fun fd => (do pure (fd.offset, ← sizeOf fd.type) : Sem (Nat × Nat)))).run P w = .ok (layPlaces 0 fs).toArray w := by
    rw [Array.mapM_eq_mapM_toList, map_eq_pure_bind]
    simp only [Sem.run_bind, hpl, Result.andThen, Sem.run_pure]
   have hfill : Instr.fill (fun i => (layPlaces 0 fs).toArray[i]?) z.cells (parts.map fun (i, x) => (i, a.eval x)).toList = some cells' := by
    rw [Array.toList_map]
    simpa using q1
   simp only [execOp, Instr.build, Sem.run_bind, zeroValue_run hz, run_underlying hu, Result.andThen, hm, Sem.run_pure]
   rw [hfill]
   rfl
  refine ⟨_, hrun, .inr ⟨?_, rfl⟩⟩
  simp only [VC]
  exact q2
 ·cases hp
theorem BS_congr {f2 : Fr} {fs : List Lay} {vs vs' : List V} {ps : List (Nat × Operand)} (h : BS f fs vs ps vs') : (∀ q ∈ ps, ev f2 q.2 = ev f q.2) → BS f2 fs vs ps vs' := by
 induction h with
 | nil => intro _; exact .nil
 | cons h1 h2 h3 _ ih => intro hq; exact .cons (by have := hq _ (List.mem_cons_self ..); simp only at this; rw [this]; exact h1) h2 h3 (ih fun q hq' => hq q (by simp [hq']))
theorem EA_build {t : TypeId} {parts : Array (Nat × Operand)} {fs : List Lay} {zs : List D} {z : Value} {vs : List V} (hz : tyZero P t = some (some z)) (hzc : cellsDs fs zs = some z.cells.toList) (hp : tyPlaces P t = some (layPlaces 0 fs)) (hb : BS f fs (zs.map V.d) parts.toList vs) :
 EvA P n ⟨dst, .build t parts, ty, pos, after, g⟩ f L (.agg fs vs) := fun C f2 hf L2 hL => Ev_build hz hzc hp (BS_congr hb fun q hq => hf q.2 (by
  simp only [Op.operands]
  simp only [List.mem_toArray, List.mem_map]
  exact ⟨q, hq, rfl⟩))
end
end Go.Eng
set_option linter.unusedVariables false
set_option linter.unusedSimpArgs false
namespace Go.Eng
abbrev β1 (o : Option (Nat × Nat)) : Beta := fun i => if i = 0 then some o else none
structure LB (S : Nat → Prop) (w : World) (e : TypeId) (l : Lay) (xs : List D) (x : Value) (o : Option (Nat × Nat)) : Prop where
 bx : BoxR (β1 o) S w 0 ⟨e, l, xs.map V.d⟩
 vc : VC (β1 o) S w (.ref l 0 0 xs.length) [x]
 own : ∀ b c, o = some (b, c) → ¬ S b
def BCall (P : Program) (k : FuncId) (pre : List D) (e : TypeId) (l : Lay) (xs : List D) (suf : List D) (ys : List D) : Prop :=
 ∀ (w : World) (S : Nat → Prop) (pv : List Value) (x : Value) (sv : List Value) (o : Option (Nat × Nat)), (∀ b, S b → b < w.heap.size) → Tab P S w → All2 (RD S w) pre pv → All2 (RD S w) suf sv → LB S w e l xs x o →
  Calls P k (pv ++ x :: sv).toArray w fun en w' => ∃ y S' o', en = .returned y ∧ LB S' w' e l ys y o' ∧ (∀ b c, o' = some (b, c) → (∃ c0, o = some (b, c0)) ∨ w.heap.size ≤ b) ∧ (∀ b, S b → S' b) ∧ (∀ b, S' b → b < w'.heap.size ∧ (S b ∨ w.heap.size ≤ b ∨ ∃ c, o = some (b, c))) ∧
   Pres (fun b => ∃ c, o = some (b, c)) w w'
theorem VCs_data {β β' : Beta} {S : Nat → Prop} {w : World} : ∀ (xs : List D) (fs : List Lay) (cs : List Value), VCs β S w fs (xs.map V.d) cs → VCs β' S w fs (xs.map V.d) cs
 | [], fs, cs, h => by simpa only [List.map_nil, VCs] using h
 | x :: xs, fs, cs, h => by
   simp only [List.map_cons, VCs, VC] at h ⊢
   obtain ⟨f, fr, c1, c2, h1, h2, h3, h4, h5⟩ := h
   exact ⟨f, fr, c1, c2, h1, h2, h3, h4, VCs_data xs fr c2 h5⟩
theorem VCs_dc {β : Beta} {S : Nat → Prop} {w : World} : ∀ (xs : List D) (fs : List Lay) (cs : List Value), VCs β S w fs (xs.map V.d) cs ↔ DCs S w fs xs cs
 | [], fs, cs => by simp only [List.map_nil, VCs, DCs]
 | x :: xs, fs, cs => by
   simp only [List.map_cons, VCs, VC, DCs]
   constructor
   ·rintro ⟨f, fr, c1, c2, h1, h2, h3, h4, h5⟩
    exact ⟨f, fr, c1, c2, h1, h2, h3, h4, (VCs_dc xs fr c2).1 h5⟩
   ·rintro ⟨f, fr, c1, c2, h1, h2, h3, h4, h5⟩
    exact ⟨f, fr, c1, c2, h1, h2, h3, h4, (VCs_dc xs fr c2).2 h5⟩
theorem BoxR_name {β β' : Beta} {S : Nat → Prop} {w : World} {i j : Nat} {e : TypeId} {l : Lay} {xs : List D} (h : BoxR β S w i ⟨e, l, xs.map V.d⟩) (hb : β' j = β i) : BoxR β' S w j ⟨e, l, xs.map V.d⟩ := by
 obtain ⟨h0, h⟩ := h
 refine ⟨h0, ?_⟩
 rcases h with ⟨h1, h2⟩ | ⟨b, Cp, cur, ds, h1, h2, h3, h4, h5, h6⟩
 ·exact .inl ⟨hb.trans h1, h2⟩
 ·exact .inr ⟨b, Cp, cur, ds, hb.trans h1, h2, h3, h4, VCs_data _ _ _ h5, h6⟩
theorem VC_name {β β' : Beta} {S S' : Nat → Prop} {w w' : World} {i j : Nat} {l : Lay} {m : Nat} {cs : List Value} (h : VC β S w (.ref l i 0 m) cs) (hb : β' j = β i) : VC β' S' w' (.ref l j 0 m) cs := by
 simp only [VC] at h ⊢
 rw [hb]
 exact h
section
variable {P : Program} {C : Cx} {n : Nat} {f : Fr} {L : Hp} {Q : AQ} {ops : Array Oper} {qt : List Nat} {rest : List Oper} {dst : Option Tmp} {ty : TypeId} {pos : String} {after : Array Edge}
theorem Rel.bcall {a : Act} {w w' : World} {β : Beta} {S S' : Nat → Prop} (h : Rel C n f L a w β S) {i : Nat} {bx bx' : Box} {o o' : Option (Nat × Nat)} (hL : L[i]? = some (some bx)) (hβ : β i = some o) (hp : Pres (fun b => ∃ c, o = some (b, c)) w w')
 (ho : ∀ b c, o' = some (b, c) → (∃ c', o = some (b, c')) ∨ w.heap.size ≤ b) (hns : ∀ b c, o' = some (b, c) → ¬ S' b) (su : ∀ b, S b → S' b) (hS : ∀ b, S' b → b < w'.heap.size ∧ (S b ∨ w.heap.size ≤ b ∨ ∃ c, o = some (b, c)))
 (hbx : ∀ β' : Beta, β' L.length = some o' → BoxR β' S' w' L.length bx') (hna : bx'.ty.ad = none := by rfl) : Rel C n f (L.set i none ++ [some bx']) a w' (setβ β L.length o') S' := by
 have hi : i < L.length := lt_of_get hL
 have old : ∀ b, b < w.heap.size → (∀ c, β i ≠ some (some (b, c))) → w'.heap[b]? = w.heap[b]? := fun b hb hne => hp.block b hb (fun ⟨c, hc⟩ => hne c (by rw [hβ, hc]))
 have lat : Later β S w (setβ β L.length o') S' w' := by
  refine ⟨fun j oo hj => ?_, su, fun b hb => old b (h.hp.fz b hb) fun c hc => h.hp.own i bx b c hL hc hb⟩
  by_cases e : j = L.length
  ·subst e; rw [h.hp.un _ (Nat.le_refl _)] at hj; cases hj
  ·rw [setβ_ne _ _ e]; exact hj
 have cases_ : ∀ j b, (L.set i none ++ [some bx'])[j]? = some (some b) → (j < L.length ∧ j ≠ i ∧ L[j]? = some (some b)) ∨ (j = L.length ∧ bx' = b) := fun j b hj => by
  rcases get_snoc _ _ _ _ hj with ⟨h1, h2⟩ | ⟨h1, h2⟩
  ·rw [List.getElem?_set] at h2
   by_cases e : i = j
   ·subst e
    rw [if_pos rfl, if_pos hi] at h2
    cases h2
   ·rw [if_neg e] at h2
    exact .inl ⟨by simpa using h1, fun h => e h.symm, h2⟩
  ·exact .inr ⟨by simpa using h1, by injection h2⟩
 have newb : ∀ b c, o' = some (b, c) → ∀ j, j < L.length → j ≠ i → ∀ bj cj, L[j]? = some (some bj) → β j ≠ some (some (b, cj)) := fun b c hob j hj hne bj cj hLj hbj => by
  rcases ho b c hob with ⟨c', hc'⟩ | hb
  ·exact hne (h.hp.inj j i b bj bx cj c' hLj hL hbj (by rw [hβ, hc']))
  ·have := (h.hp.bx j bj hLj).lt hbj
   omega
 refine h.later lat ⟨?_, ?_, ?_, ?_, ?_, ?_⟩ ?_ ?_ ?_
 ·intro j b hj
  rcases cases_ j b hj with ⟨h1, h2, h3⟩ | ⟨rfl, rfl⟩
  ·exact BoxR_later lat (fun b' c hb => old b' ((h.hp.bx j b h3).lt hb) fun c' hc' => h2 (h.hp.inj j i b' b bx c c' h3 hL hb hc')) (h.hp.bx j b h3)
  ·exact hbx _ (setβ_self _ _ _)
 ·intro j j' b b1 b2 c c' hj hj' hbj hbj'
  rcases cases_ j _ hj with ⟨h1, h2, h3⟩ | ⟨rfl, _⟩ <;> rcases cases_ j' _ hj' with ⟨k1, k2, k3⟩ | ⟨rfl, _⟩
  ·rw [setβ_ne _ _ (by omega)] at hbj hbj'
   exact h.hp.inj j j' b b1 b2 c c' h3 k3 hbj hbj'
  ·rw [setβ_ne _ _ (by omega)] at hbj
   rw [setβ_self] at hbj'
   injection hbj' with hbj'
   exact absurd hbj (newb b c' hbj' j h1 h2 _ _ h3)
  ·rw [setβ_ne _ _ (by omega)] at hbj'
   rw [setβ_self] at hbj
   injection hbj with hbj
   exact absurd hbj' (newb b c hbj j' k1 k2 _ _ k3)
  ·rfl
 ·intro j b1 b c hj hbj hs
  rcases cases_ j _ hj with ⟨h1, h2, h3⟩ | ⟨rfl, _⟩
  ·rw [setβ_ne _ _ (by omega)] at hbj
   rcases (hS b hs).2 with h4 | h4 | ⟨c4, h4⟩
   ·exact h.hp.own j b1 b c h3 hbj h4
   ·have := (h.hp.bx j b1 h3).lt hbj; omega
   ·exact h2 (h.hp.inj j i b b1 bx c c4 h3 hL hbj (by rw [hβ, h4]))
  ·rw [setβ_self] at hbj
   injection hbj with hbj
   exact hns b c hbj hs
 ·intro b hb
  exact (hS b hb).1
 ·intro j hj
  simp at hj
  rw [setβ_ne _ _ (by omega)]
  exact h.hp.un j (by omega)
 ·intro j b1 q hj hq
  rcases cases_ j _ hj with ⟨h1, h2, h3⟩ | ⟨rfl, rfl⟩
  ·rw [setβ_ne _ _ (by omega)]
   exact h.hp.ad j b1 q h3 hq
  ·rw [hna] at hq; cases hq
 ·intro j b1 b c hj hbj
  rcases cases_ j _ hj with ⟨h1, h2, h3⟩ | ⟨rfl, _⟩
  ·rw [setβ_ne _ _ (by omega)] at hbj
   exact h.own j b1 b c h3 hbj
  ·rw [setβ_self] at hbj
   injection hbj with hbj
   rcases ho b c hbj with ⟨c', hc'⟩ | hb
   ·exact h.own i bx b c' hL (by rw [hβ, hc'])
   ·have := h.pres.size
    exact .inr (by omega)
 ·intro b hb
  rcases (hS b hb).2 with h1 | h1 | ⟨c1, h1⟩
  ·exact h.fz b h1
  ·have := h.pres.size
   exact .inr (.inl (by omega))
  ·exact .inr (h.own i bx b c1 hL (by rw [hβ, h1])).symm
 ·refine ⟨hp.os.trans h.pres.os, hp.tape.trans h.pres.tape, hp.output.trans h.pres.output, by have := h.pres.size; have := hp.size; omega, fun b hb hd => ?_⟩
  have hsz := h.pres.size
  refine (old b (by omega) fun c hc => ?_).trans (h.pres.block b hb hd)
  rcases h.own i bx b c hL hc with h1 | h1
  ·exact hd h1
  ·omega
theorem VR_ref0 {β : Beta} {S : Nat → Prop} {w : World} {l : Lay} {i m : Nat} {v : Value} (h : VR β S w (.ref l i 0 m) v) : (∃ o, β i = some o) ∧ VC β S w (.ref l i 0 m) [v] := by
 rcases h with h | ⟨h, e⟩
 ·cases h
 ·have hv : isAggV v = false := by simpa [V.isAgg] using e.symm
  have hc : v.cells = #[v] := by cases v <;> first | rfl | simp [isAggV] at hv
  rw [hc] at h
  refine ⟨?_, h⟩
  simp only [VC] at h
  rcases h with ⟨h1, _⟩ | ⟨b, Cp, h1, _⟩
  ·exact ⟨_, h1⟩
  ·exact ⟨_, h1⟩
theorem bcall_wp (hT : CT P C) {x : Operand} {args : Array Operand} {ts : Array TypeId} {k : FuncId} {pre suf : List D} {e : TypeId} {l : Lay} {xs ys : List D} {a : Act} {w : World} {β : Beta} {S : Nat → Prop} (hr : Rel C n f L a w β S) {i m : Nat} {p1 p2 : List Operand} {y : Operand}
 (hx : ev f x = .d (.fn k [])) (hc : Callable P k) (hargs : args.toList = p1 ++ y :: p2) (h1 : p1.map (ev f) = pre.map V.d) (h2 : p2.map (ev f) = suf.map V.d) (hL : L[i]? = some (some ⟨e, l, xs.map V.d⟩)) (hm : xs.length = m) (hp : BCall P k pre e l xs suf ys)
 (hyv : VR β S w (.ref l i 0 m) (a.eval y)) (hd : dstOk n dst = true) (K : Act → World → Prop) (Qc : Exit → Act → World → Prop) (hK : ∀ a' w' β' S', Rel C n (updo f dst (.ref l L.length 0 ys.length)) (L.set i none ++ [some ⟨e, l, ys.map V.d⟩]) a' w' β' S' → K a' w') :
 Oper.wp P ⟨dst, callV x args ts, ty, pos, after, none⟩ a w K Qc := by
 subst hm
 have hv := rel_ev hr x
 rw [hx] at hv
 obtain ⟨cv, c1, c2⟩ := VR_fn hv
 have hcv : cv = [] := by
  have := (DCs_len _ _ _ c2).1
  simpa [Lay.lens] using this
 subst hcv
 obtain ⟨⟨o, ho⟩, hvc⟩ := VR_ref0 hyv
 unfold Oper.wp
 rw [call_run hc c1, Oper.upon_enter]
 have heq : (args.map a.eval ++ ([] : List Value).toArray) = (p1.map a.eval ++ a.eval y :: p2.map a.eval).toArray := by
  have : (args.map a.eval).toList = p1.map a.eval ++ a.eval y :: p2.map a.eval := by rw [Array.toList_map, hargs]; simp
  rw [← this]
  exact Array.append_empty.trans (Array.toArray_toList).symm
 rw [heq]
 have hlb : LB S w e l xs (a.eval y) o := ⟨BoxR_name (hr.hp.bx i _ hL) (by simp [ho]), VC_name hvc (by simp [ho]), fun b c hoo => by subst hoo; exact hr.hp.own i _ b c hL ho⟩
 refine (hp w S _ _ _ o hr.hp.fz (hT.tab hr) (args_RD hr p1 pre h1) (args_RD hr p2 suf h2) hlb).mono ?_
 rintro en w' ⟨z, S', o', rfl, ⟨q1, q2, q3⟩, q4, q5, q6, q7⟩
 have hr' := hr.bcall (bx' := ⟨e, l, ys.map V.d⟩) hL ho q7 q4 q3 q5 q6 fun β' hb => BoxR_name q1 (by simp [hb])
 refine hK _ _ _ _ (hr'.puto (dstOk_spec hd) (.inr ⟨?_, ?_⟩))
 ·have hz : isAggV z = false := by
   simp only [VC] at q2
   rcases q2 with ⟨_, q2, _⟩ | ⟨_, _, _, q2, _⟩ <;> (injection q2 with q2; rw [q2]; rfl)
  have hzc : z.cells.toList = [z] := by cases z <;> first | rfl | simp [isAggV] at hz
  rw [hzc]
  exact VC_name q2 (by rw [setβ_self]; simp)
 ·simp only [VC] at q2
  rcases q2 with ⟨_, q2, _⟩ | ⟨_, _, _, q2, _⟩ <;> (injection q2 with q2; rw [q2]; rfl)
theorem AL_bcall (hT : CT P C) {x : Operand} {args : Array Operand} {ts : Array TypeId} {k : FuncId} {pre suf : List D} {e : TypeId} {l : Lay} {xs ys : List D} (i m : Nat) (p1 : List Operand) {p2 : List Operand} {y : Operand} {bx : Box}
 (hx : ev f x = .d (.fn k [])) (hc : Callable P k) (hargs : args.toList = p1 ++ y :: p2) (h1 : p1.map (ev f) = pre.map V.d) (hy : ev f y = .ref l i 0 m) (h2 : p2.map (ev f) = suf.map V.d) (hp : BCall P k pre e l xs suf ys) (hL : L[i]? = some (some bx)) (hbx : bx = ⟨e, l, xs.map V.d⟩) (hm : xs.length = m)
 (q : Nat) (hq : L.length = q) (hd : dstOk n dst = true) (h : AL P C n ops rest Q (updo f dst (.ref l q 0 ys.length)) (L.set i none ++ [some ⟨e, l, ys.map V.d⟩])) : AL P C n ops (⟨dst, callV x args ts, ty, pos, after, none⟩ :: rest) Q f L := by
 subst hq; subst hbx
 intro a w β S hr
 refine wpList_plain rfl fun K hK => ?_
 have hyv := rel_ev hr y
 rw [hy] at hyv
 exact bcall_wp hT hr hx hc hargs h1 h2 hL hm hp hyv hd K _ fun a' w' β' S' hr' => hK _ _ (h a' w' β' S' hr')
end
def retB (fn : Func) (P : Program) (w0 : World) (S0 : Nat → Prop) (o : Option (Nat × Nat)) (e : TypeId) (l : Lay) (ys : List D) (a : Act) (w' : World) : Prop :=
 a.defers = [] ∧ ∃ y, (results fn a.tmps).run P w' = .ok y w' ∧ ∃ S' o', LB S' w' e l ys y o' ∧ (∀ b c, o' = some (b, c) → (∃ c0, o = some (b, c0)) ∨ w0.heap.size ≤ b) ∧ (∀ b, S0 b → S' b) ∧ (∀ b, S' b → b < w'.heap.size ∧ (S0 b ∨ w0.heap.size ≤ b ∨ ∃ c, o = some (b, c))) ∧
  Pres (fun b => ∃ c, o = some (b, c)) w0 w'
def retBQ (fn : Func) (P : Program) (w0 : World) (S0 : Nat → Prop) (o : Option (Nat × Nat)) (e : TypeId) (l : Lay) (ys : List D) : AQ := fun x a w => ends x = true ∧ retB fn P w0 S0 o e l ys a w
section
variable {P : Program} {C : Cx} {n : Nat} {f : Fr} {L : Hp}
theorem retB_fin {fn : Func} {o : Option (Nat × Nat)} {e : TypeId} {l : Lay} {ys : List D} {j m : Nat} {bx : Box} (hdm : ∀ b, C.Dm b ↔ ∃ c, o = some (b, c)) (hrv : RetV P f L fn.results.toList [.ref l j 0 m]) (hL : L[j]? = some (some bx)) (hbx : bx = ⟨e, l, ys.map V.d⟩) (hm : ys.length = m) : Fin C n (retB fn P C.w0 C.S0 o e l ys) f L := by
 subst hm; subst hbx
 intro a w' β' S' hr
 obtain ⟨zs, hy, hall⟩ := RetV_run hr hrv
 have hrun := results_run (fn := fn) hy
 cases hall with
 | cons h1 h2 =>
   rename_i y zs
   cases h2
   obtain ⟨⟨o', ho'⟩, hvc⟩ := VR_ref0 (VR_of_VR0 h1)
   refine ⟨hr.df, y, by simpa using hrun, S', o', ⟨BoxR_name (hr.hp.bx j _ hL) (by simp [ho']), VC_name hvc (by simp [ho']), fun b c hoo => by subst hoo; exact hr.hp.own j _ b c hL ho'⟩, fun b c hoo => ?_, hr.s0, fun b hb => ⟨hr.hp.fz b hb, ?_⟩, ?_⟩
   ·subst hoo
    rcases hr.own j _ b c hL ho' with h3 | h3
    ·exact .inl ((hdm b).1 h3)
    ·exact .inr h3
   ·rcases hr.fz b hb with h3 | h3 | h3
    ·exact .inl h3
    ·exact .inr (.inl h3)
    ·exact .inr (.inr ((hdm b).1 h3))
   ·exact ⟨hr.pres.os, hr.pres.tape, hr.pres.output, hr.pres.size, fun b hb hd => hr.pres.block b hb fun h => hd ((hdm b).1 h)⟩
theorem retb_ok {fn : Func} {o : Option (Nat × Nat)} {e : TypeId} {l : Lay} {ys : List D} {j m : Nat} {bx : Box} (hdm : ∀ b, C.Dm b ↔ ∃ c, o = some (b, c)) (hrv : RetV P f L fn.results.toList [.ref l j 0 m]) (hL : L[j]? = some (some bx)) (hbx : bx = ⟨e, l, ys.map V.d⟩) (hm : ys.length = m) : Fin C n (retBQ fn P C.w0 C.S0 o e l ys .ret) f L := fun a w β S hr => ⟨rfl, retB_fin hdm hrv hL hbx hm a w β S hr⟩
def frB (pre : List D) (l : Lay) (m : Nat) (suf : List D) : Fr := fun i => match (pre.map V.d ++ V.ref l 0 0 m :: suf.map V.d)[i]? with | some v => v | none => .any
theorem BCall_of {k : FuncId} {fn : Func} {c : Code} {pre suf : List D} {e : TypeId} {l : Lay} {xs ys : List D} (hf : P.funcs[k]? = some fn) (hb : fn.body = some c) (hn : fn.ntmps = n) (hlen : pre.length + suf.length + 1 ≤ n)
 (h : ∀ C o, (∀ b, C.Dm b ↔ ∃ c, o = some (b, c)) → CT P C → AC P C n c (retBQ fn P C.w0 C.S0 o e l ys) (frB pre l xs.length suf) [some ⟨e, l, xs.map V.d⟩]) : BCall P k pre e l xs suf ys := by
 intro w S pv x sv o hS hT hd1 hd2 hlb
 refine calls_of_wp hf hb ?_
 subst hn
 have hall : All2 (VR0 (β1 o) S w) (pre.map V.d ++ V.ref l 0 0 xs.length :: suf.map V.d) (pv ++ x :: sv) := by
  have key : ∀ {ds : List D} {vs : List Value}, All2 (RD S w) ds vs → All2 (VR0 (β1 o) S w) (ds.map V.d) vs := by
   intro ds vs h
   induction h with
   | nil => exact .nil
   | cons h1 _ ih => exact .cons (VR0_of_RD h1) ih
  refine (key hd1).append (.cons (.inr ?_) (key hd2))
  have hvc := hlb.vc
  have hx : isAggV x = false := by
   simp only [VC] at hvc
   rcases hvc with ⟨_, q, _⟩ | ⟨_, _, _, q, _⟩ <;> (injection q with q; rw [q]; rfl)
  have hxc : x.cells.toList = [x] := by cases x <;> first | rfl | simp [isAggV] at hx
  rw [hxc, hx]
  exact ⟨hvc, rfl⟩
 have hln : ∀ {vs : List V} {zs : List Value}, All2 (VR0 (β1 o) S w) vs zs → vs.length = zs.length := by
  intro vs zs h
  induction h with
  | nil => rfl
  | cons _ _ ih => simp [ih]
 have hsz := hln hall
 have hget : ∀ {vs : List V} {zs : List Value}, All2 (VR0 (β1 o) S w) vs zs → ∀ (i : Nat) (v : V), vs[i]? = some v → ∃ z : Value, zs[i]? = some z ∧ VR0 (β1 o) S w v z := by
  intro vs zs h
  induction h with
  | nil => intro i d h; simp at h
  | cons h1 _ ih =>
    intro i d hi
    cases i with
    | zero => simp at hi; subst hi; exact ⟨_, rfl, h1⟩
    | succ i => simp at hi; simpa using ih i d hi
 have hrel : Rel ⟨w, fun b => ∃ c, o = some (b, c), S⟩ fn.ntmps (frB pre l xs.length suf) [some ⟨e, l, xs.map V.d⟩] { tmps := (pv ++ x :: sv).toArray ++ Array.replicate (fn.ntmps - (pv ++ x :: sv).toArray.size) undef, defers := [] } w (β1 o) S := by
  refine ⟨rfl, ?_, fun i => ?_, ⟨?_, ?_, ?_, hS, fun i hi => ?_, fun i bx q hi hq => ?_⟩, ?_, fun b hb => .inl hb, fun b hb => hb, Pres.refl _ _⟩
  ·simp at hsz ⊢; omega
  ·show VR _ _ _ (match (pre.map V.d ++ V.ref l 0 0 xs.length :: suf.map V.d)[i]? with | some v => v | none => .any) _
   cases e' : (pre.map V.d ++ V.ref l 0 0 xs.length :: suf.map V.d)[i]? with
   | none => exact VR_any ..
   | some v =>
     obtain ⟨z, hz, hv⟩ := hget hall i v e'
     have : ((pv ++ x :: sv).toArray ++ Array.replicate (fn.ntmps - (pv ++ x :: sv).toArray.size) undef).getD i undef = z := by
      have hi := lt_of_get hz
      rw [Array.getD_eq_getD_getElem?, Array.getElem?_append_left (by simpa using hi), List.getElem?_toArray, hz]
      rfl
     simp only
     rw [this]
     exact VR_of_VR0 hv
  ·intro i b hi
   match i, hi with
   | 0, hi => simp at hi; subst hi; exact hlb.bx
   | i + 1, hi => simp at hi
  ·intro i j b bx bx' c c' hi hj _ _
   have h1 := lt_of_get hi
   have h2 := lt_of_get hj
   simp at h1 h2
   omega
  ·intro i bx b c hi hbi
   have h1 := lt_of_get hi
   simp at h1
   subst h1
   simp at hbi
   exact hlb.own b c hbi
  ·simp at hi
   show (if i = 0 then some o else none) = none
   rw [if_neg (by omega)]
  ·match i, hi with
   | 0, hi => simp at hi; subst hi; cases hq
   | i + 1, hi => simp at hi
  ·intro i bx b c hi hbi
   have h1 := lt_of_get hi
   simp at h1
   subst h1
   simp at hbi
   exact .inl ⟨c, hbi⟩
 refine wp_mono (h ⟨w, fun b => ∃ c, o = some (b, c), S⟩ o (fun b => Iff.rfl) (CT.start hT fun b hb ⟨c, hc⟩ => hlb.own b c hc hb) _ w _ S hrel) ?_
 rintro en a w' ⟨hend, h1, y, h2, S', o', h3⟩
 have fin : a.defers = [] ∧ ∃ v, (results fn a.tmps).run P w' = .ok v w' ∧ ∃ y S' o', Ending.returned v = .returned y ∧ LB S' w' e l ys y o' ∧ (∀ b c, o' = some (b, c) → (∃ c0, o = some (b, c0)) ∨ w.heap.size ≤ b) ∧ (∀ b, S b → S' b) ∧ (∀ b, S' b → b < w'.heap.size ∧ (S b ∨ w.heap.size ≤ b ∨ ∃ c, o = some (b, c))) ∧
  Pres (fun b => ∃ c, o = some (b, c)) w w' := ⟨h1, y, h2, y, S', o', rfl, h3⟩
 cases en with
 | normal => exact fin
 | ret => exact fin
 | _ => cases hend
end
theorem Vw_refe {L : Hp} {src : List (Option Nat)} {l : Lay} {i j off m m' : Nat} (hs : srcOf src j = some i) (h : m = m') : Vw L src (.ref l i off m) (.ref l j off m') := by subst h; exact .ref hs
def ints (xs : List Int) : List D := xs.map fun n => .c (.int .i64 n)
@[simp] theorem ints_length (xs : List Int) : (ints xs).length = xs.length := by simp [ints]
theorem ints_append (xs ys : List Int) : ints xs ++ ints ys = ints (xs ++ ys) := by simp [ints]
theorem ints_get {xs : List Int} {i : Nat} {n : Int} (h : xs[i]? = some n) : (ints xs)[i]? = some (.c (.int .i64 n)) := by simp [ints, h]
def strs (xs : List ByteArray) : List D := xs.map fun s => .c (.string s)
@[simp] theorem strs_length (xs : List ByteArray) : (strs xs).length = xs.length := by simp [strs]
theorem strs_append (xs ys : List ByteArray) : strs xs ++ strs ys = strs (xs ++ ys) := by simp [strs]
theorem strs_get {xs : List ByteArray} {i : Nat} {s : ByteArray} (h : xs[i]? = some s) : (strs xs)[i]? = some (.c (.string s)) := by simp [strs, h]
end Go.Eng
set_option linter.unusedVariables false
set_option linter.unusedSimpArgs false
namespace Go.Eng
inductive RdA (C : Cx) (L : Hp) : V → D → Prop
 | rd {v : V} {d : D} : Reads L (fun _ => True) v d → RdA C L v d
 | raw {B : Nat} {l : Lay} {d : D} {cs : List Value} {K : List Nat} : Has B C d cs K → cs.length = l.len → l.ag = d.isAgg → RdA C L (rawV l cs) d
section
variable {P : Program} {C : Cx} {n : Nat} {f : Fr} {L : Hp} {Q : AQ} {ops : Array Oper} {qt : List Nat} {rest : List Oper} {dst : Option Tmp} {ty : TypeId} {pos : String} {after : Array Edge} {i : Nat} {r : List Nat}
theorem RdA_RD {a : Act} {w : World} {β : Beta} {S : Nat → Prop} (hr : Rel C n f L a w β S) {x : Operand} {v : V} {d : D} (hv : ev f x = v) (h : RdA C L v d) : RD (fun b => b < w.heap.size) w d (a.eval x) := by
 have hvr := rel_ev hr x
 rw [hv] at hvr
 cases h with
 | rd h =>
   have hk : v.known = true := reads_notup h
   have hne : v ≠ .any := by rintro rfl; cases hk
   rcases known_VR0 hvr hk with h1 | ⟨h1, h2⟩
   ·exact absurd h1 hne
   ·exact ⟨Reads_sound hr.hp hr.hp.fz (fun i bx b c _ hL hb => (hr.hp.bx i bx hL).lt hb) h _ h1, by rw [← Reads_isAgg h, h2]⟩
 | raw h hl ha =>
   rename_i B l cs K
   have hk := rawV_known l cs
   have hne : rawV l cs ≠ .any := by intro e; rw [e] at hk; cases hk
   rcases known_VR0 hvr hk with h1 | ⟨h1, h2⟩
   ·exact absurd h1 hne
   ·have := rawV_cells l cs _ hl h1
    refine ⟨?_, by rw [← ha, ← rawV_isAgg l cs, h2]⟩
    rw [this]
    have hlt := Tr_lt _ _ _ h.tr
    have hsz := hr.pres.size
    exact Tr_DC _ _ K (fun b hb => by have := hlt b hb; omega) (Tr_keep _ _ _ (fun b hb => hr.pres.block b (hlt b hb) (h.dm b hb)) h.tr)
theorem RdL_RD {a : Act} {w : World} {β : Beta} {S : Nat → Prop} (hr : Rel C n f L a w β S) : ∀ (args : List Operand) (ds : List D), All2 (RdA C L) (args.map (ev f)) ds → All2 (RD (fun b => b < w.heap.size) w) ds (args.map a.eval)
 | [], ds, h => by cases h; exact .nil
 | x :: args, ds, h => by
   cases h with
   | cons h1 h2 => exact .cons (RdA_RD hr rfl h1) (RdL_RD hr args _ h2)
theorem qcall_wp (hT : CT P C) {x : Operand} {args : Array Operand} {ts : Array TypeId} {k : FuncId} {ds : List D} {y : Value} {a : Act} {w : World} {β : Beta} {S : Nat → Prop} (hr : Rel C n f L a w β S) (hx : ev f x = .d (.fn k [])) (hc : Callable P k) (hp : PCall P k ds (· = [.c y]))
 (hall : All2 (RD (fun b => b < w.heap.size) w) ds (args.toList.map a.eval)) (hd : dstOk n dst = true) (K : Act → World → Prop) (Qc : Exit → Act → World → Prop) (hK : ∀ a' w' β' S', Rel C n (updo f dst (.d (.c y))) L a' w' β' S' → K a' w') :
 Oper.wp P ⟨dst, callV x args ts, ty, pos, after, none⟩ a w K Qc := by
 have hv := rel_ev hr x
 rw [hx] at hv
 obtain ⟨cv, c1, c2⟩ := VR_fn hv
 have hcv : cv = [] := by
  have := (DCs_len _ _ _ c2).1
  simpa [Lay.lens] using this
 subst hcv
 unfold Oper.wp
 rw [call_run hc c1, Oper.upon_enter]
 have heq : (args.map a.eval ++ ([] : List Value).toArray) = (args.toList.map a.eval).toArray := by
  rw [← Array.toList_map]
  exact Array.append_empty.trans (Array.toArray_toList).symm
 rw [heq]
 refine (hp w _ _ (fun b hb => hb) ((hT.tab hr).mono hr.hp.fz) hall).mono ?_
 rintro e w' ⟨z, rs, S', rfl, rfl, q2, q3, q4, q5⟩
 have hr' := hr.called0 q5
 refine hK _ _ _ _ (hr'.puto (dstOk_spec hd) ?_)
 have q2 : RD S' w' (.c y) z := q2
 have := VR0_of_RD (β := β) q2
 have := (VR0_c.1 this)
 exact VR_c.2 this
theorem AL_qcall (hT : CT P C) {x : Operand} {args : Array Operand} {ts : Array TypeId} {k : FuncId} {ds : List D} {y : Value} (hx : ev f x = .d (.fn k [])) (hc : Callable P k) (hp : PCall P k ds (· = [.c y]))
 (ha : All2 (RdA C L) (args.toList.map (ev f)) ds) (hd : dstOk n dst = true) (h : AL P C n ops rest Q (updo f dst (.d (.c y))) L) : AL P C n ops (⟨dst, callV x args ts, ty, pos, after, none⟩ :: rest) Q f L := by
 intro a w β S hr
 refine wpList_plain rfl fun K hK => ?_
 exact qcall_wp hT hr hx hc hp (RdL_RD hr _ _ ha) hd K _ fun a' w' β' S' hr' => hK _ _ (h a' w' β' S' hr')
def MCall (P : Program) (k : FuncId) (d : D) (m : Int) (d' : D) (m' : Int) : Prop :=
 ∀ (w : World) (x : Value) (K : List Nat), Tr w d x.cells.toList K → d.isAgg = isAggV x → Calls P k #[x, .int .i64 m] w fun e w' => e = .returned (.int .i64 m') ∧ Tr w' d' x.cells.toList K ∧ Pres (fun b => b ∈ K) w w'
structure Mk (C : Cx) (K : List Nat) (C' : Cx) : Prop where
 pres : Pres (fun b => C.Dm b ∨ b ∈ K) C.w0 C'.w0
 dm : ∀ b, C'.Dm b → C.Dm b ∨ C.w0.heap.size ≤ b
 s0 : ∀ b, C.S0 b → C'.S0 b
 fz : ∀ b, C'.S0 b → C.S0 b ∨ C.w0.heap.size ≤ b ∨ C.Dm b
theorem Has.marked {B : Nat} {C C' : Cx} {d : D} {cs : List Value} {K K' : List Nat} (k : Has B C d cs K) (h : Mk C K' C') (hd : ∀ b ∈ K, b ∉ K') : Has B C' d cs K := by
 have hlt := Tr_lt _ _ _ k.tr
 refine ⟨Tr_keep _ _ _ (fun b hb => h.pres.block b (hlt b hb) fun h1 => h1.elim (k.dm b hb) (hd b hb)) k.tr, fun b hb h1 => ?_, fun b hb h1 => ?_, k.lo⟩
 ·rcases h.dm b h1 with h2 | h2
  ·exact k.dm b hb h2
  ·have := hlt b hb; omega
 ·rcases h.fz b h1 with h2 | h2 | h2
  ·exact k.s0 b hb h2
  ·have := hlt b hb; omega
  ·exact k.dm b hb h2
theorem HasL.marked {B : Nat} {C C' : Cx} {l : Lay} {css : List (List Value)} {ds : List D} {K K' : List Nat} (k : HasL B C l css ds K) (h : Mk C K' C') (hd : ∀ b ∈ K, b ∉ K') : HasL B C' l css ds K := by
 have hlt := Trs_lt _ _ _ _ k.tr
 refine ⟨Trs_keep _ _ _ _ (fun b hb => h.pres.block b (hlt b hb) fun h1 => h1.elim (k.dm b hb) (hd b hb)) k.tr, k.len, k.each, fun b hb h1 => ?_, fun b hb h1 => ?_, k.lo⟩
 ·rcases h.dm b h1 with h2 | h2
  ·exact k.dm b hb h2
  ·have := hlt b hb; omega
 ·rcases h.fz b h1 with h2 | h2 | h2
  ·exact k.s0 b hb h2
  ·have := hlt b hb; omega
  ·exact k.dm b hb h2
theorem CExt.marked {C0 C C' : Cx} {K : List Nat} (h : CExt C0 C) (k : Mk C K C') (hK : ∀ b ∈ K, C0.Dm b ∨ C0.w0.heap.size ≤ b) : CExt C0 C' := by
 have hs := h.pres.size
 refine ⟨⟨k.pres.os.trans h.pres.os, k.pres.tape.trans h.pres.tape, k.pres.output.trans h.pres.output, Nat.le_trans hs k.pres.size, fun b hb hd => ?_⟩, ?_, fun b hb => k.s0 b (h.s0 b hb), ?_⟩
 ·rw [k.pres.block b (by omega) (fun h1 => by
   rcases h1 with h1 | h1
   ·rcases h.dm b h1 with h2 | h2
    ·exact hd h2
    ·omega
   ·rcases hK b h1 with h2 | h2
    ·exact hd h2
    ·omega)]
  exact h.pres.block b hb hd
 ·intro b hb
  rcases k.dm b hb with h1 | h1
  ·exact h.dm b h1
  ·exact .inr (by omega)
 ·intro b hb
  rcases k.fz b hb with h1 | h1 | h1
  ·exact h.fz b h1
  ·exact .inr (.inl (by omega))
  ·rcases h.dm b h1 with h2 | h2
   ·exact .inr (.inr h2)
   ·exact .inr (.inl h2)
end
end Go.Eng
set_option linter.unusedVariables false
set_option linter.unusedSimpArgs false
namespace Go.Eng
structure Blk (C : Cx) (b : Nat) (cur : List Value) (ty : TypeId) : Prop where
 hp : C.w0.heap[b]? = some (.cells cur.toArray ty (0, 0))
 dm : ¬ C.Dm b
 s0 : ¬ C.S0 b
abbrev rawS (b n c : Nat) : Value := .slice (some ⟨b, 0, none⟩) n c
abbrev rawP (b o : Nat) : V := .d (.c (.pointer (some ⟨b, o, none⟩)))
theorem Blk.lt {C : Cx} {b : Nat} {cur : List Value} {ty : TypeId} (h : Blk C b cur ty) : b < C.w0.heap.size := (Array.getElem?_eq_some_iff.1 h.hp).1
theorem Blk.marked {C C' : Cx} {b : Nat} {cur : List Value} {ty : TypeId} {K : List Nat} (h : Blk C b cur ty) (k : Mk C K C') (hb : b ∉ K) : Blk C' b cur ty := by
 have hlt := h.lt
 refine ⟨(k.pres.block b hlt fun h1 => h1.elim h.dm hb).trans h.hp, fun h1 => ?_, fun h1 => ?_⟩
 ·rcases k.dm b h1 with h2 | h2
  ·exact h.dm h2
  ·omega
 ·rcases k.fz b h1 with h2 | h2 | h2
  ·exact h.s0 h2
  ·omega
  ·exact h.dm h2
theorem Mk.trans {C C' C'' : Cx} {K K' : List Nat} (h : Mk C K C') (k : Mk C' K' C'') (hK : ∀ b ∈ K', b < C.w0.heap.size → b ∈ K) : Mk C K C'' := by
 have hs := h.pres.size
 refine ⟨⟨k.pres.os.trans h.pres.os, k.pres.tape.trans h.pres.tape, k.pres.output.trans h.pres.output, Nat.le_trans hs k.pres.size, fun b hb hd => ?_⟩, ?_, fun b hb => k.s0 b (h.s0 b hb), ?_⟩
 ·rw [k.pres.block b (by omega) (fun h1 => by
   rcases h1 with h1 | h1
   ·rcases h.dm b h1 with h2 | h2
    ·exact hd (.inl h2)
    ·omega
   ·exact hd (.inr (hK b h1 hb)))]
  exact h.pres.block b hb hd
 ·intro b hb
  rcases k.dm b hb with h1 | h1
  ·exact h.dm b h1
  ·exact .inr (by omega)
 ·intro b hb
  rcases k.fz b hb with h1 | h1 | h1
  ·exact h.fz b h1
  ·exact .inr (.inl (by omega))
  ·rcases h.dm b h1 with h2 | h2
   ·exact .inr (.inr h2)
   ·exact .inr (.inl h2)
theorem Mk.mono {C C' : Cx} {K K' : List Nat} (h : Mk C K C') (hK : ∀ b ∈ K, b ∈ K') : Mk C K' C' :=
 ⟨⟨h.pres.os, h.pres.tape, h.pres.output, h.pres.size, fun b hb hd => h.pres.block b hb fun h1 => hd (h1.imp id (hK b))⟩, h.dm, h.s0, h.fz⟩
section
variable {P : Program} {C : Cx} {n : Nat} {f : Fr} {L : Hp} {Q : AQ} {ops : Array Oper} {qt : List Nat} {rest : List Oper} {dst : Option Tmp} {ty : TypeId} {pos : String} {after : Array Edge} {g : Option (Nat × Bool)}
theorem Ev_load_raw {t : TypeId} {x : Operand} {b o : Nat} {cur : List Value} {e : TypeId} {v : Value} (hx : ev f x = rawP b o) (hb : Blk C b cur e) (hv : cur[o]? = some v) (hs : tySize P t = some 1) (ha : tyAgg P t = some false) (hsc : Value.scalar v = true) :
 Ev P C n ⟨dst, .load t x, ty, pos, after, g⟩ f L (.d (.c v)) := by
 intro a w β S hr
 have hw : w.heap[b]? = some (.cells cur.toArray e (0, 0)) := (hr.pres.block b hb.lt hb.dm).trans hb.hp
 have hc : cellsAt w b o [v] := by
  intro j x hx
  match j, hx with
  | 0, hx => simp at hx; subst hx; simp [World.cell?, hw, hv]
  | j + 1, hx => simp at hx
 have hrun := run_loadVar' (P := P) (t := t) (cs := [v]) ha hs (fun _ => rfl) hc
 refine ⟨v, ?_, VR_c.2 ⟨rfl, hsc⟩⟩
 simp only [execOp, eval_c hr hx, Instr.loadAt, Instr.sureAddr, Sem.run_bind, Sem.run_pure, Result.andThen, hrun]
 rfl
theorem AL_rstore {t : TypeId} {x y : Operand} {b o : Nat} {cur : List Value} {e : TypeId} {v : Value} (hx : ev f x = rawP b o) (hy : ev f y = .d (.c v)) (hb : Blk C b cur e) (ho : o < cur.length) (hs : tySize P t = some 1) (hsc : Value.scalar v = true) (hd : dstOk n dst = true)
 (h : ∀ C', Mk C [b] C' → Blk C' b (cur.set o v) e → AL P C' n ops rest Q (updo f dst .any) L) : AL P C n ops (⟨dst, .store t x y, ty, pos, after, none⟩ :: rest) Q f L := by
 intro a w β S hr
 refine wpList_plain rfl fun K hK => ?_
 have hsz := hr.pres.size
 have hlt := hb.lt
 have hw : w.heap[b]? = some (.cells cur.toArray e (0, 0)) := (hr.pres.block b hlt hb.dm).trans hb.hp
 have hcl : v.cells.toList = [v] := by rw [cells_scalar hsc]
 have hrun := run_storeCells_at P b o e [v] 0 cur.toArray w hw (by simp; omega) (fun u hu => oneCell_of_scalar (by rw [List.mem_singleton] at hu; rw [hu]; exact hsc))
 have hnew : (cur.toArray.toList.take (o + 0) ++ [v] ++ cur.toArray.toList.drop (o + 0 + [v].length)).toArray = (cur.set o v).toArray := by
  simp only [Nat.add_zero, List.length_singleton]
  rw [List.set_eq_take_append_cons_drop, if_pos ho]
  simp
 rw [hnew] at hrun
 have hop : (execOp a.eval ⟨dst, .store t x y, ty, pos, after, none⟩).run P w = .ok .skip (w.setRow b (cur.set o v).toArray) := by
  simp only [execOp, eval_c hr hx, eval_c hr hy, Instr.storeAt, Instr.sureAddr, Sem.run_bind, Sem.run_pure, Result.andThen, storeVar_run hs (by rw [hcl]; rfl), hcl, hrun]
 unfold Oper.wp
 rw [hop, Oper.upon_skip]
 have notS : ¬ S b := fun hs => by
  rcases hr.fz b hs with h3 | h3 | h3
  ·exact hb.s0 h3
  ·omega
  ·exact hb.dm h3
 have notB : ∀ i bx c, L[i]? = some (some bx) → β i ≠ some (some (b, c)) := fun i bx c hL hβ => by
  rcases hr.own i bx b c hL hβ with h3 | h3
  ·exact hb.dm h3
  ·omega
 have old : ∀ c, c ≠ b → (w.setRow b (cur.set o v).toArray).heap[c]? = w.heap[c]? := fun c hc => setRow_other w b c _ hc
 have lat : Later β S w β S (w.setRow b (cur.set o v).toArray) := ⟨fun _ _ h => h, fun _ h => h, fun c hc => old c fun e => notS (e ▸ hc)⟩
 have hr2 : Rel ⟨w.setRow b (cur.set o v).toArray, boxBlk L β, S⟩ n f L a (w.setRow b (cur.set o v).toArray) β S := by
  refine ⟨hr.df, hr.sz, fun i => VR_later lat (hr.fr i), ⟨fun i bx hi => BoxR_later lat (fun c c' hc => old c fun e => notB i bx c' hi (e ▸ hc)) (hr.hp.bx i bx hi), hr.hp.inj, hr.hp.own, fun c hc => by have := hr.hp.fz c hc; simpa using this, hr.hp.un, hr.hp.ad⟩, fun i bx b c hL hb => .inl ⟨i, bx, c, hL, hb⟩, fun b hb => .inl hb, fun b hb => hb, Pres.refl _ _⟩
 have hmk : Mk C [b] ⟨w.setRow b (cur.set o v).toArray, boxBlk L β, S⟩ := by
  refine ⟨⟨hr.pres.os, hr.pres.tape, hr.pres.output, by simpa using hsz, fun c hc hd => ?_⟩, fun b ⟨i, bx, c, hL, hb⟩ => hr.own i bx b c hL hb, hr.s0, hr.fz⟩
  exact (old c fun e => hd (.inr (by simp [e]))).trans (hr.pres.block c hc fun h => hd (.inl h))
 exact hK _ _ (h _ hmk ⟨setRow_heap w b _ _ e _ hw, fun ⟨i, bx, c, hL, hβ⟩ => notB i bx c hL hβ, notS⟩ _ _ _ _ (hr2.puto (dstOk_spec hd) (VR_any ..)))
end
def retM (fn : Func) (P : Program) (w0 : World) (d' : D) (cs : List Value) (K : List Nat) (m' : Int) (a : Act) (w' : World) : Prop :=
 a.defers = [] ∧ (results fn a.tmps).run P w' = .ok (.int .i64 m') w' ∧ Tr w' d' cs K ∧ Pres (fun b => b ∈ K) w0 w'
def retMQ (fn : Func) (P : Program) (w0 : World) (d' : D) (cs : List Value) (K : List Nat) (m' : Int) : AQ := fun e a w => ends e = true ∧ retM fn P w0 d' cs K m' a w
section
variable {P : Program} {C : Cx} {n : Nat} {f : Fr} {L : Hp}
def frM (v : V) (m : Int) : Fr := fun i => bif Nat.beq i 0 then v else bif Nat.beq i 1 then i64 m else .any
end
theorem srcFree {src : List (Option Nat)} {i : Nat} (h : src.all (fun o => !(o == some i)) = true) : ∀ j, srcOf src j ≠ some i := by
 intro j hj
 unfold srcOf at hj
 split at hj
 ·rename_i o ho
  have := List.all_eq_true.1 h o (List.mem_of_getElem? ho)
  subst hj
  simp at this
 ·cases hj
def iota (k : Int) : Nat → List Int
 | 0 => []
 | n + 1 => k :: iota (k + 1) n
@[simp] theorem iota_length : ∀ (n : Nat) (k : Int), (iota k n).length = n
 | 0, _ => rfl
 | n + 1, k => by simp [iota, iota_length n]
end Go.Eng
set_option linter.unusedVariables false
set_option linter.unusedSimpArgs false
namespace Go.Eng
def u8s (xs : List Int) : List D := xs.map fun n => .c (.int .u8 n)
@[simp] theorem u8s_length (xs : List Int) : (u8s xs).length = xs.length := by simp [u8s]
theorem u8s_cells {S : Nat → Prop} {w : World} : ∀ (xs : List Int) (cs : List Value), DCs S w (List.replicate xs.length .one) (u8s xs) cs → cs = xs.map (Value.int .u8)
 | [], cs, h => by
   simp only [u8s, List.map_nil, DCs] at h
   simpa using h.2
 | x :: xs, cs, h => by
   simp only [u8s, List.map_cons, List.length_cons, List.replicate_succ, DCs] at h
   obtain ⟨f, fr, c1, c2, e, rfl, h3, h4, h5⟩ := h
   injection e with e1 e2
   subst e1; subst e2
   simp only [DC] at h4
   rw [h4.1, u8s_cells xs c2 h5]
   rfl
section
variable {P : Program} {C : Cx} {n : Nat} {f : Fr} {L : Hp} {dst : Option Tmp} {ty : TypeId} {pos : String} {after : Array Edge} {g : Option (Nat × Bool)}
theorem Ev_conv_bytes {s d e : TypeId} {x : Operand} (xs : List Int) (hs : tyElem P s = some e) (he : tyInt P e = some .u8) (hd : tyStr P d = true) (hx : ev f x = .d (.sl .one (u8s xs))) (hpos : 0 < xs.length) :
 Ev P C n ⟨dst, .convert s d x, ty, pos, after, g⟩ f L (st (strOfNums xs)) := by
 intro a w β S hr
 have hv := rel_ev hr x
 rw [hx] at hv
 obtain ⟨A, cap, h1, h2, h3, h4⟩ := VR_sl hv
 rw [u8s_length] at h1 h4
 have hd' : P.underlying d = some .string := by
  unfold tyStr at hd
  split at hd
  ·assumption
  ·cases hd
 have he' : P.underlying e = some (.int .u8) := by
  unfold tyInt at he
  split at he
  ·rename_i k hk
   injection he with he
   subst he
   exact hk
  ·cases he
 rcases h4 with h4 | ⟨b, off, ds, rfl, hb, hdc, hc⟩
 ·omega
 ·have hds := u8s_cells xs ds hdc
  subst hds
  have hrun := run_convert_bytes_arg (P := P) w s e (elem_some hs) he' b off xs.length cap xs rfl (fun i hi => by
   have : (xs.map (Value.int .u8))[i]? = some (.int .u8 (xs.getD i 0)) := by simp [List.getD, hi]
   exact hc i _ this) d hd'
  refine ⟨_, ?_, VR_c.2 ⟨rfl, rfl⟩⟩
  simp only [execOp, h1, hrun, Sem.run_bind, Result.andThen]
  rfl
end
def digs : Nat → Int → ByteArray → ByteArray
 | 0, _, s => s
 | n + 1, k, s => if 0 < k then digs n (Int.tdiv k 10) (strOfNums [IntKind.u8.wrap (IntKind.i64.wrap (48 + Int.tmod k 10))] ++ s) else s
def mtext (k : Int) : ByteArray := if k ≤ 0 then ⟨#[109, 48]⟩ else ⟨#[109]⟩ ++ digs k.toNat k ⟨#[]⟩
theorem Mk.refl (C : Cx) (K : List Nat) : Mk C K C := ⟨⟨rfl, rfl, rfl, Nat.le_refl _, fun _ _ _ => rfl⟩, fun _ h => .inl h, fun _ h => h, fun _ h => .inl h⟩
abbrev vi (n : Int) : Value := .int .i64 n
end Go.Eng
set_option linter.unusedVariables false
set_option linter.unusedSimpArgs false
namespace Go.Eng
section
variable {P : Program} {C : Cx} {n : Nat} {ops : Array Oper} {qt : List Nat} {Q : AQ} {f : Fr} {L : Hp} {dst : Option Tmp} {ty : TypeId} {pos : String} {after : Array Edge} {i : Nat} {r : List Nat}
end
section
variable {P : Program} {C : Cx} {n : Nat} {f : Fr} {L : Hp}
theorem ret_okX {C0 : Cx} {fn : Func} {post : List D → Prop} {vs : List V} {ds : List D} (hx : CExt C0 C) (hdm : ∀ b, ¬ C0.Dm b) (h1 : RetV P f L fn.results.toList vs) (h2 : ReadsL L (fun _ => True) vs ds) (h3 : post ds) : Fin C n (retQ fn P C0.w0 C0.S0 post .ret) f L := fun a w β S hr => ⟨rfl, ret_fin hx hdm h1 h2 h3 a w β S hr⟩
theorem joinF {F : Prop} {sl : List (Nat × V)} {L2 : Hp} (src : List (Option Nat)) (hlen : src.length = L2.length) (hnd : nodupS src = true) (hF : F) (hb : BxTo L src 0 L2) (hs : SlTo L src f sl) : Fin C n (fun a w => ∃ f' L' β S, Rel C n f' L' a w β S ∧ (F ∧ f' = frOf sl ∧ L' = L2)) f L := fin_wk (Wk_to src _ L2 hlen hnd hb hs ⟨hF, rfl, rfl⟩)
theorem Got.apart {C C' : Cx} {r : D} {l : Lay} {cs : List Value} {K : List Nat} (g : Got C r l C' cs K) {B : Nat} {d : D} {cs0 : List Value} {K0 : List Nat} (h : Has B C d cs0 K0) : ∀ b ∈ K, b ∉ K0 := fun b hb hb0 => by
 have := g.has.lo b hb
 have := Tr_lt _ _ _ h.tr b hb0
 omega
end
end Go.Eng
set_option linter.unusedVariables false
namespace Go.Eng
open Go.ChangeShapes
theorem frozen_of {w w' : World} (h : Pres (fun _ => False) w w') (a : Addr) (hb : a.block < w.heap.size) : w'.frozen? a = w.frozen? a := by
 have := h.block a.block hb (fun h => h)
 simp [World.frozen?, this]
theorem kept_of {w w' : World} (h : Pres (fun _ => False) w w') : w.keptBut w' (fun _ => False) := by
 refine ⟨h.os, h.output, fun i hi => ?_⟩
 have e := h.block i hi (fun h => h)
 rw [e]
 cases w.heap[i]? with
 | none => exact rfl
 | some o => cases o <;> simp
theorem post_of_pres {H : Type} {enc : TypeId × Value → H} {P : Program} {f : Func} {s : ChangeSpec} {apart fresh handsOn again : Bool} {W W' : World} {args : Array Value} {v : Value} {ds gs : List (DataW H)} {before pa pv : List MemPlace}
 (hW : DataW.Whole enc P f.params.toList s.vars apart W args.toList ds gs before) (hp : Pres (fun _ => False) W W') (hps : before = pa ++ pv)
 (hres : ∀ (b : Nat) (sp : Nat → Bool) (hd : Bool), DataW.TrodAll enc P W' b sp hd f.resultTypes.toList (v.resultList f.resultTypes.size) (s.fn H (ds ++ gs)).results [])
 (hargs : ∀ sp : Nat → Bool, (∀ p ∈ before, sp p.block = true) → DataW.TrodAll enc P W' 0 sp true f.params.toList args.toList (s.fn H (ds ++ gs)).args pa)
 (hvars : ∀ sp : Nat → Bool, (∀ p ∈ before, sp p.block = true) → DataW.TrodVars enc P W' sp s.vars (s.fn H (ds ++ gs)).vars pv)
 (hok : ∀ (j : Nat) (t : TypeId) (r : Value), f.resultTypes[j]? = some t → (v.resultList f.resultTypes.size)[j]? = some r → Value.okWide P W' .any 0 t r) :
 s.post enc P f apart fresh handsOn again W args v W' := by
 have hlt := hW.lt
 have hnf := hW
 obtain ⟨_, _, _, _, _, hz, hn⟩ := hnf
 subst hps
 have hst := trodAll_append (hargs (fun _ => true) fun _ _ => rfl) (hres 0 (fun _ => true) true)
 rw [List.nil_append] at hst
 refine ⟨ds, gs, pa ++ pv, [], pa, pv, hW, hres _ _ _, hargs _ fun p hp => by simpa using hlt p hp, hvars _ fun p hp => by simpa using hlt p hp, World.keptBut_mono (fun p hf => hf.elim) (kept_of hp), fun _ => ⟨hok, _, _, pa ++ pv, ⟨pa, pv, hst, hvars _ fun _ _ => rfl, rfl, fun b off hm => ?_, hn⟩, fun p hm _ => by simpa using hm⟩⟩
 rw [frozen_of hp _ (hlt _ hm)]
 exact hz b off hm
end Go.Eng
set_option linter.unusedVariables false
namespace Go.Eng
inductive T where
 | mk (kind : Int) (name : ByteArray) (num : Int) (kids : List T)
def T.kind : T → Int | .mk k _ _ _ => k
def T.name : T → ByteArray | .mk _ s _ _ => s
def T.num : T → Int | .mk _ _ m _ => m
def T.kids : T → List T | .mk _ _ _ ks => ks
abbrev LT : Lay := .st [.one, .one, .one, .one]
def zT : D := .agg [.one, .one, .one, .one] [.c (.int .i64 0), .c (.string ⟨#[]⟩), .c (.int .i64 0), .c (.slice none 0 0)]
mutual
def inj : T → D
 | .mk k s m ks => .agg [.one, .one, .one, .one] [.c (.int .i64 k), .c (.string s), .c (.int .i64 m), .sl LT (injs ks)]
def injs : List T → List D
 | [] => []
 | t :: r => inj t :: injs r
end
theorem injs_map (ks : List T) : injs ks = ks.map inj := by
 induction ks with
 | nil => simp [injs]
 | cons t r ih => simp [injs, ih]
theorem injs_get {ks : List T} {i : Nat} {t : T} (h : ks[i]? = some t) : (injs ks)[i]? = some (inj t) := by rw [injs_map]; simp [h]
@[simp] theorem injs_length (ks : List T) : (injs ks).length = ks.length := by rw [injs_map]; simp
@[simp] theorem inj_len (t : T) : (inj t).len? = 4 := by cases t; rfl
@[simp] theorem inj_agg (t : T) : (inj t).isAgg = true := by cases t; rfl
mutual
def sz : T → Nat
 | .mk _ _ _ ks => 1 + szs ks
def szs : List T → Nat
 | [] => 0
 | t :: r => sz t + szs r
end
theorem sz_mem {ks : List T} {t : T} (h : t ∈ ks) : sz t ≤ szs ks := by
 induction ks with
 | nil => cases h
 | cons u r ih =>
   rcases List.mem_cons.1 h with rfl | h
   ·simp only [szs]; omega
   ·simp only [szs]; have := ih h; omega
theorem sz_pos (t : T) : 1 ≤ sz t := by cases t; simp only [sz]; omega
theorem T.ind {p : T → Prop} (h : ∀ k s m ks, (∀ t ∈ ks, p t) → p (.mk k s m ks)) (t : T) : p t := by
 generalize hn : sz t = n
 induction n using Nat.strongRecOn generalizing t with
 | _ n ih =>
   cases t with
   | mk k s m ks =>
     refine h k s m ks fun u hu => ih (sz u) ?_ u rfl
     have := sz_mem hu
     simp only [sz] at hn
     omega
mutual
def times (n : Int) : T → Nat
 | .mk k _ m ks => (if k = 1 ∧ m = n then 1 else 0) + timesL n ks
def timesL (n : Int) : List T → Nat
 | [] => 0
 | t :: r => times n t + timesL n r
end
mutual
def rn (g : Int → Int) : T → T
 | .mk k s m ks => .mk k s (if k = 1 then g m else m) (rnL g ks)
def rnL (g : Int → Int) : List T → List T
 | [] => []
 | t :: r => rn g t :: rnL g r
end
theorem rnL_map (g : Int → Int) (ks : List T) : rnL g ks = ks.map (rn g) := by
 induction ks with
 | nil => simp [rnL]
 | cons t r ih => simp [rnL, ih]
@[simp] theorem rnL_length (g : Int → Int) (ks : List T) : (rnL g ks).length = ks.length := by rw [rnL_map]; simp
theorem take_succ_get {α : Type} : ∀ {ks : List α} {i : Nat} {u : α}, ks[i]? = some u → ks.take (i + 1) = ks.take i ++ [u]
 | [], i, u, h => by simp at h
 | k :: r, 0, u, h => by simp at h; subst h; simp
 | k :: r, i + 1, u, h => by simp at h; simp [take_succ_get h]
theorem drop_get {α : Type} : ∀ {ks : List α} {i : Nat} {u : α}, ks[i]? = some u → ks.drop i = u :: ks.drop (i + 1)
 | [], i, u, h => by simp at h
 | k :: r, 0, u, h => by simp at h; subst h; simp
 | k :: r, i + 1, u, h => by simp at h; simp [drop_get h]
theorem injs_take_map {α : Type} (F : α → T) {ks : List α} {i : Nat} {u : α} (h : ks[i]? = some u) : injs ((ks.take i).map F) ++ [inj (F u)] = injs ((ks.take (i + 1)).map F) := by
 rw [injs_map, injs_map, take_succ_get h]
 simp
theorem inj_lenL (t : T) : (inj t).len? = LT.len := by rw [inj_len]; rfl
theorem injs_take_get {ks : List T} {i : Nat} {u : T} (h : ks[i]? = some u) : injs (ks.take (i + 1)) = injs (ks.take i) ++ [inj u] := by
 rw [injs_map, injs_map, take_succ_get h]
 simp
mutual
def vars : T → List Int
 | .mk k _ m ks => (if k = 1 then [m] else []) ++ varsL ks
def varsL : List T → List Int
 | [] => []
 | t :: r => vars t ++ varsL r
end
mutual
theorem rn_id : ∀ t : T, rn id t = t
 | .mk k s m ks => by simp only [rn, rnL_id ks]; split <;> rfl
theorem rnL_id : ∀ ks : List T, rnL id ks = ks
 | [] => rfl
 | t :: r => by simp only [rnL, rn_id t, rnL_id r]
end
structure Cl where
 h : T
 b : T
 f : ByteArray
abbrev LC : Lay := .st [LT, LT, .one]
def injC (c : Cl) : D := .agg [LT, LT, .one] [inj c.h, inj c.b, .c (.string c.f)]
@[simp] theorem injC_len (c : Cl) : (injC c).len? = 9 := rfl
@[simp] theorem injC_agg (c : Cl) : (injC c).isAgg = true := rfl
def neck : ByteArray := ⟨#[58, 45]⟩
def Cl.term (c : Cl) : T := .mk 4 neck 0 [c.h, c.b]
mutual
def bulk : T → Int
 | .mk _ s _ ks => s.size + bulkS ks
def bulkS : List T → Int
 | ks => ks.length + bulkL ks
def bulkL : List T → Int
 | [] => 0
 | t :: r => bulk t + bulkL r
end
theorem bulkS_eq (ks : List T) : bulkS ks = ks.length + bulkL ks := by cases ks <;> simp [bulkS]
mutual
theorem bulk_nn : ∀ t : T, 0 ≤ bulk t
 | .mk _ s _ ks => by
   have := bulkL_nn ks
   simp only [bulk, bulkS_eq]
   omega
theorem bulkL_nn : ∀ ks : List T, 0 ≤ bulkL ks
 | [] => by simp [bulkL]
 | t :: r => by
   have := bulk_nn t
   have := bulkL_nn r
   simp only [bulkL]
   omega
end
theorem bulkL_take {ks : List T} {i : Nat} {u : T} (h : ks[i]? = some u) : bulkL (ks.take (i + 1)) = bulkL (ks.take i) + bulk u := by
 rw [take_succ_get h]
 generalize ks.take i = l
 induction l with
 | nil => simp [bulkL]
 | cons t r ih => simp only [List.cons_append, bulkL, ih]; omega
mutual
theorem sz_bulk : ∀ t : T, (sz t : Int) ≤ 1 + bulk t
 | .mk _ s _ ks => by
   have := szs_bulk ks
   simp only [sz, bulk, bulkS_eq]
   push_cast
   omega
theorem szs_bulk : ∀ ks : List T, (szs ks : Int) ≤ ks.length + bulkL ks
 | [] => by simp [szs, bulkL]
 | t :: r => by
   have := sz_bulk t
   have := szs_bulk r
   simp only [szs, bulkL, List.length_cons]
   push_cast
   omega
end
mutual
def uV : List Int → T → List Int
 | out, .mk k _ m ks => uL (if k = 1 ∧ m ∉ out then out ++ [m] else out) ks
def uL : List Int → List T → List Int
 | out, [] => out
 | out, t :: r => uL (uV out t) r
end
def sgl (all : List Int) : Nat → List Int
 | 0 => []
 | j + 1 => sgl all j ++ (match all[j]? with | some n => (if n ∉ all.take j ∧ n ∉ all.drop (j + 1) then [n] else []) | none => [])
def ones (t : T) (vs : List Int) : List Int := vs.filter fun x => decide (times x t = 1)
end Go.Eng
set_option linter.unusedVariables false
set_option linter.unusedSimpArgs false
namespace Go.Eng
mutual
def cntT : T → Int
 | .mk _ _ _ ks => 3 + cntL ks
def cntL : List T → Int
 | [] => 0
 | t :: r => cntT t + cntL r
end
mutual
def mkT : Int → T → T
 | k, .mk _ _ _ ks => .mk k (mtext (k + 1)) (k + 2) (mkL (k + 3) ks)
def mkL : Int → List T → List T
 | _, [] => []
 | k, t :: r => mkT k t :: mkL (k + cntT t) r
end
@[simp] theorem mkL_length : ∀ (ks : List T) (k : Int), (mkL k ks).length = ks.length
 | [], k => by simp [mkL]
 | t :: r, k => by simp [mkL, mkL_length r]
def rowsL : List T → List Value → List Value
 | t :: ts, A :: As => vi t.kind :: .string t.name :: vi t.num :: A :: rowsL ts As
 | _, _ => []
def kidsD (ts : List T) : List D := ts.map fun t => .sl LT (injs t.kids)
theorem kids_step {w : World} {u : T} {ys : List T} : ∀ (xs : List T) (As : List Value) (K : List Nat), Trs w (List.replicate (xs ++ u :: ys).length .one) (kidsD (xs ++ u :: ys)) As K →
 ∃ A Kj, As[xs.length]? = some A ∧ Tr w (.sl LT (injs u.kids)) [A] Kj ∧ (∀ b ∈ Kj, b ∈ K) ∧ ∀ (w' : World) (u' : T), (∀ b ∈ K, b ∉ Kj → w'.heap[b]? = w.heap[b]?) → Tr w' (.sl LT (injs u'.kids)) [A] Kj → Trs w' (List.replicate (xs ++ u' :: ys).length .one) (kidsD (xs ++ u' :: ys)) As K
 | [], As, K, h => by
   simp only [List.nil_append, kidsD, List.map_cons, List.length_cons, List.replicate_succ] at h
   unfold Trs at h
   obtain ⟨f, fr, c1, c2, M1, M2, e, rfl, h3, rfl, h5, h6, h7⟩ := h
   injection e with e1 e2
   subst e1; subst e2
   match c1, h3 with
   | [A], _ =>
     refine ⟨A, M1, rfl, h6, fun b hb => by simp [hb], fun w' u' hw h' => ?_⟩
     simp only [List.nil_append, kidsD, List.map_cons, List.length_cons, List.replicate_succ]
     unfold Trs
     exact ⟨_, _, [A], c2, M1, M2, rfl, rfl, rfl, rfl, h5, h', Trs_keep _ _ _ _ (fun b hb => hw b (by simp [hb]) fun h8 => h5 b h8 hb) h7⟩
 | x :: xs, As, K, h => by
   simp only [List.cons_append, kidsD, List.map_cons, List.length_cons, List.replicate_succ] at h
   unfold Trs at h
   obtain ⟨f, fr, c1, c2, M1, M2, e, rfl, h3, rfl, h5, h6, h7⟩ := h
   injection e with e1 e2
   subst e1; subst e2
   match c1, h3 with
   | [B], _ =>
     obtain ⟨A, Kj, k1, k2, k3, k4⟩ := kids_step xs c2 M2 h7
     refine ⟨A, Kj, by simpa using k1, k2, fun b hb => by simp [k3 b hb], fun w' u' hw h' => ?_⟩
     simp only [List.cons_append, kidsD, List.map_cons, List.length_cons, List.replicate_succ]
     unfold Trs
     exact ⟨_, _, [B], c2, M1, M2, rfl, rfl, rfl, rfl, h5, Tr_keep _ _ _ (fun b hb => hw b (by simp [hb]) fun h8 => h5 b hb (k3 b h8)) h6, k4 w' u' (fun b hb hn => hw b (by simp [hb]) hn) h'⟩
structure HasK (C : Cx) (ts : List T) (As : List Value) (K : List Nat) : Prop where
 tr : Trs C.w0 (List.replicate ts.length .one) (kidsD ts) As K
 dm : ∀ b ∈ K, ¬ C.Dm b
 s0 : ∀ b ∈ K, ¬ C.S0 b
theorem HasK.marked {C C' : Cx} {ts : List T} {As : List Value} {K K' : List Nat} (k : HasK C ts As K) (h : Mk C K' C') (hd : ∀ b ∈ K, b ∉ K') : HasK C' ts As K := by
 have hlt := Trs_lt _ _ _ _ k.tr
 refine ⟨Trs_keep _ _ _ _ (fun b hb => h.pres.block b (hlt b hb) fun h1 => h1.elim (k.dm b hb) (hd b hb)) k.tr, fun b hb h1 => ?_, fun b hb h1 => ?_⟩
 ·rcases h.dm b h1 with h2 | h2
  ·exact k.dm b hb h2
  ·have := hlt b hb; omega
 ·rcases h.fz b h1 with h2 | h2 | h2
  ·exact k.s0 b hb h2
  ·have := hlt b hb; omega
  ·exact k.dm b hb h2
theorem HasK.step {C : Cx} {xs : List T} {u : T} {ys : List T} {As : List Value} {K : List Nat} (k : HasK C (xs ++ u :: ys) As K) :
 ∃ A Kj, As[xs.length]? = some A ∧ Has 0 C (.sl LT (injs u.kids)) [A] Kj ∧ (∀ b ∈ Kj, b ∈ K) ∧ ∀ (C' : Cx) (u' : T), Mk C Kj C' → Has 0 C' (.sl LT (injs u'.kids)) [A] Kj → HasK C' (xs ++ u' :: ys) As K := by
 obtain ⟨A, Kj, k1, k2, k3, k4⟩ := kids_step xs As K k.tr
 have hlt := Trs_lt _ _ _ _ k.tr
 refine ⟨A, Kj, k1, ⟨k2, fun b hb => k.dm b (k3 b hb), fun b hb => k.s0 b (k3 b hb), fun _ _ => Nat.zero_le _⟩, k3, fun C' u' hm h' => ⟨k4 C'.w0 u' (fun b hb hn => hm.pres.block b (hlt b hb) fun h1 => h1.elim (k.dm b hb) hn) h'.tr, fun b hb h1 => ?_, fun b hb h1 => ?_⟩⟩
 ·rcases hm.dm b h1 with h2 | h2
  ·exact k.dm b hb h2
  ·have := hlt b hb; omega
 ·rcases hm.fz b h1 with h2 | h2 | h2
  ·exact k.s0 b hb h2
  ·have := hlt b hb; omega
  ·exact k.dm b hb h2
def mkK (k : Int) (t : T) : T := .mk t.kind t.name t.num (mkL k t.kids)
end Go.Eng
set_option linter.unusedVariables false
set_option linter.unusedSimpArgs false
namespace Go.Proofs.YtjgliechbnommaaGreatDoor
open Go.Eng
abbrev below (w : World) : Nat → Prop := fun b => b < w.heap.size
section
variable {H : Type} {enc : TypeId × Value → H} {P : Program} {w : World} {sp : Nat → Bool} {held : Bool}
theorem mapM_get {A B : Type} {F : A → Option B} : ∀ {l : List A} {r : List B}, l.mapM F = some r → ∀ (i : Nat) (x : A), l[i]? = some x → ∃ y, r[i]? = some y ∧ F x = some y
 | [], r, h, i, x, hx => by simp at hx
 | a :: l, r, h, i, x, hx => by
   simp only [List.mapM_cons, Option.bind_eq_bind, Option.pure_def, Option.bind_eq_some_iff] at h
   obtain ⟨y, hy, r', hr, e⟩ := h
   injection e with e
   subst e
   cases i with
   | zero => simp at hx; subst hx; exact ⟨y, rfl, hy⟩
   | succ i => simp at hx; simpa using mapM_get hr i x hx
theorem mapM_len {A B : Type} {F : A → Option B} : ∀ {l : List A} {r : List B}, l.mapM F = some r → r.length = l.length
 | [], r, h => by simp at h; subst h; rfl
 | a :: l, r, h => by
   simp only [List.mapM_cons, Option.bind_eq_bind, Option.pure_def, Option.bind_eq_some_iff] at h
   obtain ⟨y, hy, r', hr, e⟩ := h
   injection e with e
   subst e
   simp [mapM_len hr]
theorem cells_of {base : Nat} {a : Addr} {m : Nat} {cs : List Value} (h : w.cells? base a m = some cs) : cs.length = m ∧ ∀ (j : Nat) (x : Value), cs[j]? = some x → w.cell? (a.add j) = some x := by
 unfold World.cells? at h
 split at h
 ·have hl := mapM_len h
  refine ⟨by simpa using hl, fun j x hx => ?_⟩
  have hj := lt_of_get hx
  rw [hl] at hj
  have hj : j < m := by simpa using hj
  obtain ⟨y, h1, h2⟩ := mapM_get h j j (List.getElem?_range hj)
  rw [hx] at h1
  injection h1 with h1
  subst h1
  exact h2
 ·cases h
theorem choose_list {A : Type} {p : Nat → A → Prop} : ∀ n : Nat, (∀ i, i < n → ∃ x, p i x) → ∃ l : List A, l.length = n ∧ ∀ i x, l[i]? = some x → p i x
 | 0, _ => ⟨[], rfl, fun i x h => by simp at h⟩
 | n + 1, h => by
   obtain ⟨l, hl, hp⟩ := choose_list n fun i hi => h i (by omega)
   obtain ⟨x, hx⟩ := h n (by omega)
   refine ⟨l ++ [x], by simp [hl], fun i y hy => ?_⟩
   by_cases hi : i < n
   ·rw [List.getElem?_append_left (by omega)] at hy
    exact hp i y hy
   ·have hi2 := lt_of_get hy
    simp [hl] at hi2
    have : i = n := by omega
    subst this
    rw [List.getElem?_append_right (by omega)] at hy
    simp [hl] at hy
    subst hy
    exact hx
theorem DCs_rows {S : Nat → Prop} {l : Lay} : ∀ {ds : List D} {css : List (List Value)}, css.length = ds.length → (∀ (i : Nat) (d : D) (cs : List Value), ds[i]? = some d → css[i]? = some cs → DC S w d cs ∧ cs.length = l.len) → DCs S w (List.replicate ds.length l) ds css.flatten
 | [], [], _, _ => by simp [DCs]
 | [], _ :: _, h, _ => by simp at h
 | _ :: _, [], h, _ => by simp at h
 | d :: ds, cs :: css, h, hp => by
   obtain ⟨h1, h2⟩ := hp 0 d cs rfl rfl
   have := DCs_rows (S := S) (l := l) (ds := ds) (css := css) (by simpa using h) fun i d' cs' e1 e2 => hp (i + 1) d' cs' (by simpa using e1) (by simpa using e2)
   simp only [List.length_cons, List.replicate_succ, List.flatten_cons, DCs]
   exact ⟨_, _, _, _, rfl, rfl, h2, h1, this⟩
theorem flatten_get {l : Nat} (hl : 0 < l) : ∀ {css : List (List Value)}, (∀ c ∈ css, c.length = l) → ∀ (j : Nat) (x : Value), css.flatten[j]? = some x → ∃ c, css[j / l]? = some c ∧ c[j % l]? = some x
 | [], _, j, x, h => by simp at h
 | c :: css, hc, j, x, h => by
   have hcl := hc c (by simp)
   rw [List.flatten_cons] at h
   by_cases hj : j < l
   ·rw [List.getElem?_append_left (by omega)] at h
    rw [Nat.div_eq_of_lt hj, Nat.mod_eq_of_lt hj]
    exact ⟨c, rfl, h⟩
   ·rw [List.getElem?_append_right (by omega), hcl] at h
    obtain ⟨c', h1, h2⟩ := flatten_get hl (fun c hc' => hc c (by simp [hc'])) (j - l) x h
    have e1 : j / l = (j - l) / l + 1 := by rw [Nat.div_eq_sub_div hl (by omega)]
    have e2 : j % l = (j - l) % l := by rw [Nat.mod_eq_sub_mod (by omega)]
    rw [e1, e2]
    exact ⟨c', by simpa using h1, h2⟩
structure TermTy (P : Program) (tT tS tI tB : TypeId) : Prop where
 uT : ∃ f0 f1 f2 f3 : Field, P.underlying tT = some (.struct #[f0, f1, f2, f3]) ∧ f0.type = tI ∧ f0.offset = 0 ∧ f1.type = tB ∧ f1.offset = 1 ∧ f2.type = tI ∧ f2.offset = 2 ∧ f3.type = tS ∧ f3.offset = 3
 uS : P.underlying tS = some (.slice tT)
 uI : P.underlying tI = some (.int .i64)
 uB : P.underlying tB = some .string
 cT : P.cellsOf tT = 4
 cI : P.cellsOf tI = 1
 cB : P.cellsOf tB = 1
 cS : P.cellsOf tS = 1
theorem bulkAll_mem {d : DataW H} : ∀ {l : List (DataW H)} {i : Nat}, l[i]? = some d → Rows.uptoBulk d ≤ Rows.uptoBulkAll l
 | [], i, h => by simp at h
 | x :: l, 0, h => by simp at h; subst h; simp only [Rows.uptoBulkAll]; omega
 | x :: l, i + 1, h => by
   have := bulkAll_mem (l := l) (i := i) (by simpa using h)
   simp only [Rows.uptoBulkAll]
   omega
theorem add_zero_addr (a : Addr) : a.add 0 = a := by simp [Addr.add]
theorem add_add_addr (a : Addr) (h : a.spot = none) (i j : Nat) : (a.add i).add j = ⟨a.block, a.off + (i + j), none⟩ := by
 cases a
 simp only at h
 subst h
 unfold Addr.add
 split <;> split <;> simp_all <;> omega
theorem cell_spot {a : Addr} {x : Value} (h : w.cell? a = some x) : a.spot = none ∧ a.block < w.heap.size := by
 unfold World.cell? at h
 split at h
 ·rename_i e
  refine ⟨?_, (Array.getElem?_eq_some_iff.1 e).1⟩
  cases hs : a.spot with
  | none => rfl
  | some v => simp [hs] at h
 ·cases h
end
end Go.Proofs.YtjgliechbnommaaGreatDoor
set_option linter.unusedVariables false
set_option linter.unusedSimpArgs false
namespace Go.Proofs.YtjgliechbnommaaGreatDoor
open Go.Eng Go.ChangeShapes Go.WideShapes Go.ChangeAt Go.RowKit
theorem below_of {w w' : World} (h : Pres (fun _ => False) w w') : Go.RowKit.Below w.heap.size w w' := ⟨h.os, h.tape, h.output, h.size, fun b hb => h.block b hb (fun h => h)⟩
section
variable {H : Type} {enc : TypeId × Value → H} {P : Program}
theorem args_stay {W W' : World} {sp : Nat → Bool} (hl : laidOutB P = true) (hb : Go.RowKit.Below W.heap.size W W') : ∀ {ts : List TypeId} {vs : List Value} {ds : List (DataW H)} {p : List MemPlace}, (∀ t ∈ ts, P.readableRec t = true ∧ t < P.types.size) →
 DataW.TrodAll enc P W 0 (fun _ => true) true ts vs ds p → (∀ x ∈ p, x.block < W.heap.size) → (∀ x ∈ p, sp x.block = true) → DataW.TrodAll enc P W' 0 sp true ts vs ds p
 | [], [], [], p, _, h, _, _ => h
 | t :: ts, v :: vs, d :: ds, p, ht, ⟨p1, p2, h1, h2, e⟩, hlt, hs =>
   ⟨p1, p2, WideElems.Trod_stays hl (ht t (by simp)).1 (ht t (by simp)).2 h1 (fun x hx => hb.same (hlt x (by simp [e, hx]))) (fun x hx => hs x (by simp [e, hx])),
    args_stay hl hb (fun t' h' => ht t' (by simp [h'])) h2 (fun x hx => hlt x (by simp [e, hx])) (fun x hx => hs x (by simp [e, hx])), e⟩
 | [], _ :: _, _, _, _, h, _, _ => h.elim
 | [], [], _ :: _, _, _, h, _, _ => h.elim
 | _ :: _, [], _, _, _, h, _, _ => h.elim
 | _ :: _, _ :: _, [], _, _, h, _, _ => h.elim
theorem law_post {f : Func} {s : ChangeSpec} {W : World} {args : Array Value} {ds gs : List (DataW H)} {before : List MemPlace} {k : FuncId} {dsD : List D} {tb : TypeId}
 (hl : laidOutB P = true) (hts : ∀ t ∈ f.params.toList, P.readableRec t = true ∧ t < P.types.size) (hvars : s.vars = []) (hres : f.resultTypes = #[tb]) (hub : P.underlying tb = some .bool)
 (hfn : s.fn H (ds ++ gs) = { results := [.lit (.bool true)], args := ds, vars := [] })
 (hW : DataW.Whole enc P f.params.toList s.vars false W args.toList ds gs before) (hT : Tab P (below W) W) (hrd : All2 (RD (below W) W) dsD args.toList) (hc : PCall P k dsD (· = [.c (.bool true)])) :
 Calls P k args W fun e W' => ∃ v, e = .returned v ∧ s.post enc P f false true false false W args v W' := by
 have hW0 := hW
 obtain ⟨p, q, hA, hV, he, hfz, hnd⟩ := hW0
 have hV0 := hV
 rw [hvars] at hV0
 obtain ⟨rfl, rfl⟩ := trodVars_none hV0
 have hpb : before = p := by simpa using he
 have hx := hc W (below W) args.toList (fun b h => h) hT hrd
 have hx : Calls P k args W fun e w' => ∃ x rs S', e = .returned x ∧ rs = [.c (.bool true)] ∧ RetR S' w' rs x ∧ (∀ b, below W b → S' b) ∧ (∀ b, S' b → b < w'.heap.size ∧ (below W b ∨ W.heap.size ≤ b)) ∧ Pres (fun _ => False) W w' := by simpa using hx
 refine hx.mono fun e W' ⟨x, rs, S', h1, h2, h3, h4, h5, h6⟩ => ?_
 subst h2
 have hb := below_of h6
 have hxv : x = .bool true := by
  have := VR0_c.1 (VR0_of_RD (β := fun _ => none) h3)
  exact this.1
 subst hxv
 have hlt : ∀ y ∈ p, y.block < W.heap.size := fun y hy => hW.lt y (by rw [hpb]; exact hy)
 refine ⟨_, h1, post_of_pres (pa := p) (pv := []) hW h6 (by rw [hpb]; simp) (fun b sp hd => ?_) (fun sp hsp => ?_) (fun sp hsp => ?_) (ok_one hres rfl (okWide_bool_mk hub _))⟩
 ·rw [hres, hfn]
  exact trodAll_cons_mk (shut_bool hub _) trodAll_mk0
 ·rw [hfn]
  exact args_stay hl hb hts hA hlt fun y hy => hsp y (by rw [hpb]; exact hy)
 ·rw [hvars, hfn]
  exact rfl
end
end Go.Proofs.YtjgliechbnommaaGreatDoor
set_option linter.unusedVariables false
namespace Go.Eng
def injCs (cs : List Cl) : List D := cs.map injC
@[simp] theorem injCs_length (cs : List Cl) : (injCs cs).length = cs.length := by simp [injCs]
theorem injCs_get {cs : List Cl} {i : Nat} {c : Cl} (h : cs[i]? = some c) : (injCs cs)[i]? = some (injC c) := by simp [injCs, h]
section
variable {P : Program} {C : Cx} {n : Nat} {f : Fr} {L : Hp} {dst : Option Tmp} {ty : TypeId} {pos : String} {after : Array Edge} {g : Option (Nat × Bool)}
theorem Ev_len_injs {t e : TypeId} {x : Operand} {l : Lay} {ks : List T} (ht : tyElem P t = some e) (hx : ev f x = .d (.sl l (injs ks))) : Ev P C n ⟨dst, callB .len #[x] #[t], ty, pos, after, g⟩ f L (i64 ks.length) := by
 have := Ev_len_sl (P := P) (C := C) (n := n) (L := L) (dst := dst) (ty := ty) (pos := pos) (after := after) (g := g) ht hx
 rwa [injs_length] at this
theorem Ev_len_ints {t e : TypeId} {x : Operand} {l : Lay} {ks : List Int} (ht : tyElem P t = some e) (hx : ev f x = .d (.sl l (ints ks))) : Ev P C n ⟨dst, callB .len #[x] #[t], ty, pos, after, g⟩ f L (i64 ks.length) := by
 have := Ev_len_sl (P := P) (C := C) (n := n) (L := L) (dst := dst) (ty := ty) (pos := pos) (after := after) (g := g) ht hx
 rwa [ints_length] at this
theorem Ev_len_strs {t e : TypeId} {x : Operand} {l : Lay} {ks : List ByteArray} (ht : tyElem P t = some e) (hx : ev f x = .d (.sl l (strs ks))) : Ev P C n ⟨dst, callB .len #[x] #[t], ty, pos, after, g⟩ f L (i64 ks.length) := by
 have := Ev_len_sl (P := P) (C := C) (n := n) (L := L) (dst := dst) (ty := ty) (pos := pos) (after := after) (g := g) ht hx
 rwa [strs_length] at this
theorem Ev_len_injCs {t e : TypeId} {x : Operand} {l : Lay} {ks : List Cl} (ht : tyElem P t = some e) (hx : ev f x = .d (.sl l (injCs ks))) : Ev P C n ⟨dst, callB .len #[x] #[t], ty, pos, after, g⟩ f L (i64 ks.length) := by
 have := Ev_len_sl (P := P) (C := C) (n := n) (L := L) (dst := dst) (ty := ty) (pos := pos) (after := after) (g := g) ht hx
 rwa [injCs_length] at this
theorem EA_len_injs {t e : TypeId} {x : Operand} {l : Lay} {ks : List T} (ht : tyElem P t = some e) (hx : ev f x = .d (.sl l (injs ks))) : EvA P n ⟨dst, callB .len #[x] #[t], ty, pos, after, g⟩ f L (i64 ks.length) := fun C_ f2_ hf_ L2_ hL_ => Ev_len_injs ht ((hf_ x (by simp [Op.operands, Call.operands])).trans hx)
theorem EA_len_strs {t e : TypeId} {x : Operand} {l : Lay} {ks : List ByteArray} (ht : tyElem P t = some e) (hx : ev f x = .d (.sl l (strs ks))) : EvA P n ⟨dst, callB .len #[x] #[t], ty, pos, after, g⟩ f L (i64 ks.length) := fun C_ f2_ hf_ L2_ hL_ => Ev_len_strs ht ((hf_ x (by simp [Op.operands, Call.operands])).trans hx)
theorem EA_len_injCs {t e : TypeId} {x : Operand} {l : Lay} {ks : List Cl} (ht : tyElem P t = some e) (hx : ev f x = .d (.sl l (injCs ks))) : EvA P n ⟨dst, callB .len #[x] #[t], ty, pos, after, g⟩ f L (i64 ks.length) := fun C_ f2_ hf_ L2_ hL_ => Ev_len_injCs ht ((hf_ x (by simp [Op.operands, Call.operands])).trans hx)
def tyBool (P : Program) (t : TypeId) : Bool := match P.underlying t with | some .bool => true | _ => false
theorem tyBool_spec {t : TypeId} (h : tyBool P t = true) : P.underlying t = some .bool := by
 unfold tyBool at h
 split at h
 ·assumption
 ·cases h
theorem run_equal_bool {t : TypeId} (h : tyBool P t = true) (a b : Bool) (w : World) : (Op.equal t (.bool a) (.bool b)).run P w = .ok (a == b) w := by
 have hu := run_underlying (tyBool_spec h)
 show (Op.equalIn (9999 + 1) t (.bool a) (.bool b)).run P w = _
 rw [Op.equalIn]
 simp only [Sem.run_bind, hu, Result.andThen, Sem.run_pure]
theorem Ev_beql {t ty' : TypeId} {x y : Operand} {a b : Bool} (ht : tyBool P t = true) (hx : ev f x = bl a) (hy : ev f y = bl b) : Ev P C n ⟨dst, .binOp .eql t x y ty', ty, pos, after, g⟩ f L (bl (decide (a = b))) :=
 Ev_bin hx hy rfl fun w => by
  have he := run_equal_bool ht a b w
  simp only [eqGuard, binOp, Sem.run_bind, he, Result.andThen, Sem.run_pure, Bool.not_true, Bool.false_eq_true, if_false]
  cases a <;> cases b <;> rfl
theorem EA_beql {t ty' : TypeId} {x y : Operand} {a b : Bool} (ht : tyBool P t = true) (hx : ev f x = bl a) (hy : ev f y = bl b) : EvA P n ⟨dst, .binOp .eql t x y ty', ty, pos, after, g⟩ f L (bl (decide (a = b))) :=
 fun C_ f2_ hf_ L2_ hL_ => Ev_beql ht ((hf_ x (by simp [Op.operands])).trans hx) ((hf_ y (by simp [Op.operands])).trans hy)
end
end Go.Eng
set_option linter.unusedVariables false
set_option linter.unusedSimpArgs false
namespace Go.Proofs.YtjgliechbnommaaGreatDoor
open Go.Eng Go.ChangeShapes Go.WideShapes
section
variable {H : Type} {enc : TypeId × Value → H} {P : Program} {W : World} {base : Nat} {sp : Nat → Bool} {held : Bool}
abbrev TrodA (enc : TypeId × Value → H) (P : Program) (W : World) (t : TypeId) (v : Value) (d : DataW H) (p : List MemPlace) : Prop := DataW.Trod enc P W 0 (fun _ => true) true t v d p
theorem cast_le {a : Int} {n : Nat} (h : a ≤ (n : Int)) (k : n ≤ 1048576) : a ≤ 1048576 := Int.le_trans h (Int.ofNat_le.2 k)
theorem bulkAll_len (l : List (DataW H)) : l.length ≤ Rows.uptoBulkAll l := by
 induction l with
 | nil => simp [Rows.uptoBulkAll]
 | cons x r ih =>
   have : 1 ≤ Rows.uptoBulk x := by cases x <;> first | (rename_i l; cases l <;> simp [Rows.uptoBulk]; done) | simp [Rows.uptoBulk]
   simp only [Rows.uptoBulkAll, List.length_cons]; omega
theorem read_slice {A : Type} {tE tS : TypeId} {l : Lay} (ij : A → D) (bk : A → Int) (hu : P.underlying tS = some (.slice tE)) (hce : P.cellsOf tE = l.len) (hl0 : 0 < l.len)
 (hread : ∀ (n : Nat) (cs : List Value) (x : DataW H × List MemPlace), DataW.trod enc P W 0 sp held n tE cs = some x → Rows.uptoBulk x.1 ≤ 1048576 → ∃ a : A, DC (below W) W (ij a) cs ∧ cs.length = l.len ∧ bk a + 1 ≤ (Rows.uptoBulk x.1 : Int))
 (n : Nat) (c : Value) (x : DataW H × List MemPlace) (h : DataW.trod enc P W 0 sp held n tS [c] = some x) (hbt : Rows.uptoBulk x.1 ≤ 1048576) :
 ∃ ks : List A, DC (below W) W (.sl l (ks.map ij)) [c] ∧ ks.length + (ks.map bk).sum + 1 ≤ (Rows.uptoBulk x.1 : Int) := by
 rcases DataW.trod_slice hu h with ⟨e3, rfl⟩ | ⟨a, len, cap, elems, rest, m', rfl, e3, rfl, hba, hlc, hcm, hel, hall, _, _⟩
 ·refine ⟨[], ?_, by simp [Rows.uptoBulk]⟩
  rw [e3]
  simp only [List.map_nil, DC]
  exact ⟨none, 0, 0, rfl, rfl, Nat.le_refl _, Nat.zero_le _, .inl rfl⟩
 ·rw [hce] at hall
  have hbe : Rows.uptoBulkAll (elems.map (·.1)) + 1 ≤ Rows.uptoBulk (DataW.slice (elems.map (·.1)) (rest.map (·.1))) := by simp only [Rows.uptoBulk]; omega
  have hbt' : Rows.uptoBulk (DataW.slice (elems.map (·.1)) (rest.map (·.1))) ≤ 1048576 := hbt
  obtain ⟨zs, hzl, hz⟩ := choose_list (A := A × List Value) (p := fun i z => DC (below W) W (ij z.1) z.2 ∧ z.2.length = l.len ∧ W.cells? 0 (a.add (i * l.len)) l.len = some z.2 ∧ ∀ y, elems[i]? = some y → bk z.1 + 1 ≤ (Rows.uptoBulk y.1 : Int)) len fun i hi => by
   obtain ⟨y, hy⟩ : ∃ y, elems[i]? = some y := ⟨_, List.getElem?_eq_getElem (by omega)⟩
   have := hall i hi
   rw [hy, Option.bind_eq_some_iff] at this
   obtain ⟨csi, k1, k2⟩ := this
   have hyb := bulkAll_mem (l := elems.map (·.1)) (i := i) (d := y.1) (by simp [hy])
   obtain ⟨t, q1, q2, q3⟩ := hread m' csi y k2 (by omega)
   exact ⟨(t, csi), q1, q2, k1, fun y' hy' => by rw [hy] at hy'; injection hy' with hy'; subst hy'; exact q3⟩
  have hsum : ∀ (ts : List A) (ds : List (DataW H)), ts.length = ds.length → (∀ (i : Nat) (t : A) (d : DataW H), ts[i]? = some t → ds[i]? = some d → bk t + 1 ≤ (Rows.uptoBulk d : Int)) → ts.length + (ts.map bk).sum ≤ (Rows.uptoBulkAll ds : Int) := by
   intro ts
   induction ts with
   | nil => intro ds hd _; cases ds <;> simp_all [Rows.uptoBulkAll]
   | cons t ts ih =>
     intro ds hd hp
     cases ds with
     | nil => simp at hd
     | cons d ds =>
       have h1 := hp 0 t d rfl rfl
       have h2 := ih ds (by simpa using hd) fun i t' d' e1 e2 => hp (i + 1) t' d' (by simpa using e1) (by simpa using e2)
       simp only [List.length_cons, List.map_cons, List.sum_cons, Rows.uptoBulkAll]
       push_cast
       omega
  have hkb := hsum (zs.map (·.1)) (elems.map (·.1)) (by simp [hzl, hel]) fun i t d e1 e2 => by
   simp only [List.getElem?_map, Option.map_eq_some_iff] at e1 e2
   obtain ⟨z, z1, rfl⟩ := e1
   obtain ⟨y, y1, rfl⟩ := e2
   exact (hz i z z1).2.2.2 y y1
  have hll : (Rows.uptoBulkAll (elems.map (·.1)) : Int) + 1 ≤ (Rows.uptoBulk (DataW.slice (elems.map (·.1)) (rest.map (·.1))) : Int) := by exact_mod_cast hbe
  have hel2 := bulkAll_len (elems.map (·.1))
  refine ⟨zs.map (·.1), ?_, by
   show _ ≤ ((Rows.uptoBulk (DataW.slice (elems.map (·.1)) (rest.map (·.1))) : Nat) : Int)
   omega⟩
  rw [e3]
  simp only [DC]
  refine ⟨some a, len, cap, rfl, by simp [hzl], hlc, ?_, ?_⟩
  ·simp only [List.length_map, hel] at hel2
   simp only [lim]
   omega
  ·by_cases h0 : len = 0
   ·exact .inl h0
   ·refine .inr ⟨a.block, a.off, (zs.map (·.2)).flatten, ?_, ?_, ?_, ?_⟩
    all_goals
     obtain ⟨z0, hz0⟩ : ∃ z, zs[0]? = some z := ⟨_, List.getElem?_eq_getElem (by omega)⟩
     obtain ⟨_, l0, cc0, _⟩ := hz 0 z0 hz0
     obtain ⟨cl, cg⟩ := cells_of cc0
     obtain ⟨v0, hv0⟩ : ∃ v, z0.2[0]? = some v := ⟨_, List.getElem?_eq_getElem (by omega)⟩
     have hcell := cg 0 v0 hv0
     rw [Nat.zero_mul, add_zero_addr, add_zero_addr] at hcell
     obtain ⟨hsp, hlt⟩ := cell_spot hcell
    ·cases a; simp only at hsp; subst hsp; rfl
    ·exact hlt
    ·have := DCs_rows (S := below W) (w := W) (l := l) (ds := (zs.map (·.1)).map ij) (css := zs.map (·.2)) (by simp) fun i d cs e1 e2 => by
      simp only [List.getElem?_map, Option.map_eq_some_iff] at e1 e2
      obtain ⟨t, ⟨z, z1, rfl⟩, rfl⟩ := e1
      obtain ⟨z', z1', rfl⟩ := e2
      rw [z1] at z1'
      injection z1' with z1'
      subst z1'
      exact ⟨(hz i z z1).1, (hz i z z1).2.1⟩
     exact this
    ·intro j x hx
     obtain ⟨c, h5, h6⟩ := flatten_get (l := l.len) hl0 (fun c hc => by
      obtain ⟨z, hz', rfl⟩ := List.mem_map.1 hc
      obtain ⟨i, hi⟩ := List.getElem?_of_mem hz'
      exact (hz i z hi).2.1) j x hx
     simp only [List.getElem?_map, Option.map_eq_some_iff] at h5
     obtain ⟨z, z1, rfl⟩ := h5
     have := (cells_of (hz _ z z1).2.2.1).2 _ x h6
     rw [add_add_addr a hsp] at this
     have e : j / l.len * l.len + j % l.len = j := Nat.div_add_mod' j l.len
     rw [e] at this
     exact this
end
end Go.Proofs.YtjgliechbnommaaGreatDoor
set_option linter.unusedVariables false
namespace Go.Eng
def bts (s : ByteArray) : List UInt8 := s.data.toList
@[simp] theorem bts_len (s : ByteArray) : (bts s).length = s.size := by simp [bts]
theorem bts_get {s : ByteArray} {j : Nat} {u : UInt8} (h : (bts s)[j]? = some u) : s[((j : Nat) : Int).toNat]? = some u := by
 have hj := (List.getElem?_eq_some_iff.1 h).1
 have hl : j < s.size := by simpa using hj
 have : s[((j : Nat) : Int).toNat]? = some s[j] := by
  simp only [Int.toNat_natCast]
  exact getElem?_pos s j hl
 rw [this]
 rw [List.getElem?_eq_getElem hj] at h
 injection h with h
 rw [← h]
 rfl
def inB (n a b : Int) : Bool := decide (a ≤ n) && decide (n ≤ b)
def chOk (c : UInt8) : Bool := decide (33 ≤ (c.toNat : Int)) && decide ((c.toNat : Int) ≤ 126) && !decide ((c.toNat : Int) = 39) && !decide ((c.toNat : Int) = 34)
def chsOk : List UInt8 → Bool
 | [] => true
 | c :: r => chOk c && chsOk r
def nameB (s : ByteArray) : Bool := chsOk (bts s) && inB s.size 1 20
def oneB (k : Int) (s : ByteArray) (m n : Int) : Bool :=
 if k = 1 then inB m 0 99999 && decide (s = ⟨#[]⟩) && decide (n = 0)
 else if k = 2 then nameB s && decide (m = 0) && decide (n = 0)
 else if k = 3 then inB m (-999999999) 999999999 && decide (s = ⟨#[]⟩) && decide (n = 0)
 else if k = 4 then nameB s && decide (m = 0) && inB n 1 5
 else false
mutual
def sized : T → Int → Int
 | .mk k s m ks, d => if 40 < d then 401 else if oneB k s m ks.length then sizedL ks (d + 1) 1 else 401
def sizedL : List T → Int → Int → Int
 | [], _, n => n
 | t :: r, d, n => if 400 < n + sized t d then 401 else sizedL r d (n + sized t d)
end
mutual
def lcount : T → Int → Int
 | .mk _ _ _ ks, r => lcountL ks (r - 1)
def lcountL : List T → Int → Int
 | [], r => r
 | t :: ts, r => if 0 ≤ r then lcountL ts (lcount t r) else r
end
mutual
def lright : T → Int → Bool
 | .mk k s m ks, d => !decide (40 < d) && oneB k s m ks.length && lrightL ks (d + 1)
def lrightL : List T → Int → Bool
 | [], _ => true
 | t :: r, d => lright t d && lrightL r d
end
def okT (t : T) : Bool := decide (sized t 1 ≤ 400)
def okS (t : T) : Bool := decide (0 ≤ lcount t 400) && lright t 1
mutual
theorem sized_eq : ∀ (t : T) (d : Int), sized t d = if lright t d = true ∧ sz t ≤ 400 then (sz t : Int) else 401
 | .mk k s m ks, d => by
   simp only [sized, lright, sz]
   by_cases h1 : 40 < d
   ·simp [h1]
   ·by_cases h2 : oneB k s m ks.length = true
    ·rw [if_neg h1, if_pos h2, sizedL_eq ks (d + 1) 1 (by omega) (by omega)]
     simp only [h1, h2, decide_false, Bool.not_false, Bool.true_and]
     by_cases h3 : lrightL ks (d + 1) = true ∧ 1 + (szs ks : Int) ≤ 400
     ·rw [if_pos h3, if_pos ⟨h3.1, by omega⟩]; push_cast; rfl
     ·rw [if_neg h3, if_neg (fun h => h3 ⟨h.1, by have := h.2; omega⟩)]
    ·rw [if_neg h1, if_neg h2]
     simp [h2]
theorem sizedL_eq : ∀ (ks : List T) (d n : Int), 0 ≤ n → n ≤ 400 → sizedL ks d n = if lrightL ks d = true ∧ n + szs ks ≤ 400 then n + szs ks else 401
 | [], d, n, h0, h1 => by simp [sizedL, lrightL, szs, h1]
 | t :: r, d, n, h0, h1 => by
   simp only [sizedL, lrightL, szs, Bool.and_eq_true]
   have hs := sized_eq t d
   have hp := sz_pos t
   by_cases h2 : lright t d = true ∧ sz t ≤ 400
   ·rw [if_pos h2] at hs
    rw [hs]
    by_cases h3 : 400 < n + (sz t : Int)
    ·rw [if_pos h3, if_neg (fun h => by have := h.2; push_cast at this; omega)]
    ·rw [if_neg h3, sizedL_eq r d (n + sz t) (by omega) (by omega)]
     by_cases h4 : lrightL r d = true ∧ n + (sz t : Int) + szs r ≤ 400
     ·rw [if_pos h4, if_pos ⟨⟨h2.1, h4.1⟩, by push_cast; omega⟩]; push_cast; omega
     ·rw [if_neg h4, if_neg (fun h => h4 ⟨h.1.2, by have := h.2; push_cast at this; omega⟩)]
   ·rw [if_neg h2] at hs
    rw [hs, if_pos (by omega), if_neg (fun h => h2 ⟨h.1.1, by have := h.2; push_cast at this; omega⟩)]
end
theorem sized_bd (t : T) (d : Int) : 0 ≤ sized t d ∧ sized t d ≤ 401 := by
 rw [sized_eq]; split <;> omega
mutual
theorem lcount_eq : ∀ (t : T) (r : Int), ((sz t : Int) ≤ r → lcount t r = r - sz t) ∧ (r < sz t → lcount t r < 0)
 | .mk k s m ks, r => by
   simp only [lcount, sz]
   have := lcountL_eq ks (r - 1)
   push_cast
   exact ⟨fun h => by rw [this.1 (by omega) (by omega)]; omega, fun h => this.2 (by omega)⟩
theorem lcountL_eq : ∀ (ks : List T) (r : Int), (0 ≤ r → (szs ks : Int) ≤ r → lcountL ks r = r - szs ks) ∧ (r < 0 ∨ r < (szs ks : Int) → lcountL ks r < 0)
 | [], r => by
   simp only [lcountL, szs]
   exact ⟨fun _ _ => by omega, fun h => by omega⟩
 | t :: ts, r => by
   simp only [lcountL, szs]
   have hp := sz_pos t
   push_cast
   by_cases h0 : 0 ≤ r
   ·rw [if_pos h0]
    have h1 := lcount_eq t r
    have h2 := lcountL_eq ts (lcount t r)
    refine ⟨fun _ h => ?_, fun h => ?_⟩
    ·have e := h1.1 (by omega)
     rw [e] at h2 ⊢
     rw [h2.1 (by omega) (by omega)]
     omega
    ·by_cases h3 : (sz t : Int) ≤ r
     ·have e := h1.1 h3
      rw [e] at h2 ⊢
      exact h2.2 (by omega)
     ·exact h2.2 (.inl (h1.2 (by omega)))
   ·rw [if_neg h0]
    exact ⟨fun h => absurd h h0, fun _ => by omega⟩
end
mutual
theorem lcount_bd : ∀ (t : T) (r : Int), 0 ≤ r → -1 ≤ lcount t r ∧ lcount t r ≤ r
 | .mk k s m ks, r, h => by
   simp only [lcount]
   have := lcountL_bd ks (r - 1) (by omega)
   omega
theorem lcountL_bd : ∀ (ks : List T) (r : Int), -1 ≤ r → -1 ≤ lcountL ks r ∧ lcountL ks r ≤ r
 | [], r, h => by simp [lcountL, h]
 | t :: ts, r, h => by
   simp only [lcountL]
   split
   ·rename_i h0
    have h1 := lcount_bd t r h0
    have h2 := lcountL_bd ts (lcount t r) h1.1
    omega
   ·omega
end
theorem okS_eq (t : T) : okS t = okT t := by
 have h1 := lcount_eq t 400
 have h2 := sized_eq t 1
 unfold okS okT
 rw [h2]
 by_cases h3 : sz t ≤ 400
 ·have h1 := h1.1 (by omega)
  cases h4 : lright t 1 with
  | true => simp [h1, h3]
  | false => simp
 ·have h1 := h1.2 (by omega)
  simp [h3]
  omega
theorem bulkL_mem {ks : List T} {u : T} (h : u ∈ ks) : bulk u ≤ bulkL ks := by
 induction ks with
 | nil => cases h
 | cons v r ih =>
   have h1 := bulk_nn v
   have h2 := bulkL_nn r
   rcases List.mem_cons.1 h with rfl | h
   ·simp only [bulkL]; omega
   ·have := ih h
    simp only [bulkL]; omega
theorem bulk_mk {k m : Int} {s : ByteArray} {ks : List T} {B : Int} (h : bulk (.mk k s m ks) ≤ B) : (s.size : Int) ≤ B ∧ (ks.length : Int) ≤ B ∧ ∀ u ∈ ks, bulk u ≤ B := by
 simp only [bulk, bulkS_eq] at h
 have hn := bulkL_nn ks
 exact ⟨by omega, by omega, fun u hu => by have := bulkL_mem hu; omega⟩
def dec (n : Int) : ByteArray := ⟨(Lib.itoa n).toArray⟩
theorem dec_size (n : Int) (h0 : -9223372036854775808 ≤ n) (h1 : n ≤ 9223372036854775807) : (dec n).size ≤ 21 := by
 have := Lib.itoa_length_le n h0 h1
 simpa [dec, ByteArray.size] using this
def slash : ByteArray := ⟨#[47]⟩
def predS (t : T) : ByteArray := if t.kind = 2 ∨ t.kind = 4 then t.name ++ slash ++ dec t.kids.length else ⟨#[]⟩
def anyS : List T → Bool
 | [] => false
 | t :: r => decide (t.kind = 4) || anyS r
def flatT (t : T) : Bool := !anyS t.kids && (decide (t.kind = 2) || decide (t.kind = 4)) && okT t
def flatS (t : T) : Bool := if t.kind = 2 then okT t else !anyS t.kids && decide (t.kind = 4) && okT t
end Go.Eng
set_option linter.unusedVariables false
namespace Go.Eng
structure Dbt where
 cs : List Cl
 op : List ByteArray
abbrev LD : Lay := .st [.one, .one]
def injD : Dbt → D
 | ⟨cs, op⟩ => .agg [.one, .one] [.sl LC (injCs cs), .sl .one (strs op)]
def bulkC (c : Cl) : Int := bulk c.h + bulk c.b + c.f.size
def bulkCs : List Cl → Int
 | [] => 0
 | c :: r => bulkC c + bulkCs r
def bulkSs : List ByteArray → Int
 | [] => 0
 | s :: r => s.size + bulkSs r
def bulkD (d : Dbt) : Int := d.cs.length + bulkCs d.cs + d.op.length + bulkSs d.op
theorem bulkC_nn (c : Cl) : 0 ≤ bulkC c := by
 have := bulk_nn c.h
 have := bulk_nn c.b
 unfold bulkC; omega
theorem bulkCs_nn : ∀ cs : List Cl, 0 ≤ bulkCs cs
 | [] => by simp [bulkCs]
 | c :: r => by have := bulkC_nn c; have := bulkCs_nn r; simp only [bulkCs]; omega
theorem bulkSs_nn : ∀ cs : List ByteArray, 0 ≤ bulkSs cs
 | [] => by simp [bulkSs]
 | c :: r => by have := bulkSs_nn r; simp only [bulkSs]; omega
theorem bulkCs_mem {cs : List Cl} {c : Cl} (h : c ∈ cs) : bulkC c ≤ bulkCs cs := by
 induction cs with
 | nil => cases h
 | cons v r ih =>
   have h1 := bulkC_nn v
   have h2 := bulkCs_nn r
   rcases List.mem_cons.1 h with rfl | h
   ·simp only [bulkCs]; omega
   ·have := ih h; simp only [bulkCs]; omega
def hasS : List ByteArray → ByteArray → Bool
 | [], _ => false
 | x :: r, s => decide (x = s) || hasS r s
def onceL (xs : List ByteArray) (s : ByteArray) : List ByteArray := if hasS xs s then xs else xs ++ [s]
theorem onceL_len (xs : List ByteArray) (s : ByteArray) : (onceL xs s).length ≤ xs.length + 1 := by unfold onceL; split <;> simp
def predsF : List Cl → List ByteArray → List ByteArray
 | [], out => out
 | c :: r, out => predsF r (onceL out (predS c.h))
theorem predsF_len : ∀ (cs : List Cl) (out : List ByteArray), (predsF cs out).length ≤ out.length + cs.length
 | [], out => by simp [predsF]
 | c :: r, out => by
   have := predsF_len r (onceL out (predS c.h))
   have := onceL_len out (predS c.h)
   simp only [predsF, List.length_cons]; omega
theorem bulkCs_bd {cs : List Cl} {c : Cl} {B : Int} (h : c ∈ cs) (hb : bulkCs cs ≤ B) : bulk c.h ≤ B ∧ bulk c.b ≤ B ∧ (c.f.size : Int) ≤ B := by
 have h1 := bulkCs_mem h
 have h2 := bulk_nn c.h
 have h3 := bulk_nn c.b
 unfold bulkC at h1
 omega
def idxS : List ByteArray → ByteArray → Nat → Int
 | [], _, _ => -1
 | x :: r, s, j => if x = s then j else idxS r s (j + 1)
theorem idxS_has (xs : List ByteArray) (s : ByteArray) : ∀ j : Nat, decide (0 ≤ idxS xs s j) = hasS xs s := by
 induction xs with
 | nil => intro j; rfl
 | cons x r ih =>
   intro j
   simp only [idxS, hasS]
   by_cases h : x = s
   ·simp [h]
   ·simp [h, ih]
theorem bulkD_bd {cs : List Cl} {op : List ByteArray} {B : Int} (h : bulkD ⟨cs, op⟩ ≤ B) : (cs.length : Int) ≤ B ∧ bulkCs cs ≤ B ∧ (op.length : Int) ≤ B ∧ bulkSs op ≤ B := by
 have h1 := bulkCs_nn cs
 have h2 := bulkSs_nn op
 unfold bulkD at h
 simp only at h
 omega
end Go.Eng
set_option linter.unusedVariables false
namespace Go.Eng
structure Wn where
 k : Int
 a : Int
 t : ByteArray
abbrev LW : Lay := .st [.one, .one, .one]
def injW : Wn → D
 | ⟨k, a, t⟩ => .agg [.one, .one, .one] [.c (.int .i64 k), .c (.int .i64 a), .c (.string t)]
def wword (k : Int) : ByteArray := if k = 1 then ⟨#[115, 105, 110, 103, 108, 101]⟩ else if k = 2 then ⟨#[97, 112, 97, 114, 116]⟩ else if k = 3 then ⟨#[109, 105, 115, 115, 105, 110, 103]⟩ else if k = 4 then ⟨#[116, 119, 105, 99, 101]⟩ else ⟨#[63]⟩
def sp1 : ByteArray := ⟨#[32]⟩
def wsay (w : Wn) : ByteArray := dec (max w.a 0) ++ sp1 ++ wword w.k
def wshow (w : Wn) : ByteArray := if w.t = ⟨#[]⟩ then wsay w else wsay w ++ (sp1 ++ w.t)
theorem ba_ext {a b : ByteArray} (h : a.data.toList = b.data.toList) : a = b := by
 cases a; cases b
 simp only at h
 congr 1
 exact Array.toList_inj.1 h
theorem ba_app (a b : ByteArray) : (a ++ b).data.toList = a.data.toList ++ b.data.toList := by simp
theorem dec_pos {n : Int} (h : 0 ≤ n) : (dec n).data.toList = Lib.decDigits n.toNat := by
 have : Lib.itoa n = Lib.decDigits n.toNat := by unfold Lib.itoa; rw [if_neg (by omega)]
 simp [dec, this]
theorem dec_zero : dec 0 = ⟨#[48]⟩ := ba_ext (by rw [dec_pos (Int.le_refl _)]; rw [Lib.decDigits]; rfl)
def toCome (n : Int) : List UInt8 := if n = 0 then [] else Lib.decDigits n.toNat
theorem toCome_step {n : Int} (h : 0 < n) : toCome n = toCome (n.tdiv 10) ++ [UInt8.ofNat (48 + (n.tmod 10).toNat)] := by
 have hd : n.tdiv 10 = ((n.toNat / 10 : Nat) : Int) := by
  obtain ⟨m, rfl⟩ : ∃ m : Nat, n = m := ⟨n.toNat, by omega⟩
  simp [Int.tdiv_eq_ediv_of_nonneg]
 have hm : n.tmod 10 = ((n.toNat % 10 : Nat) : Int) := by
  obtain ⟨m, rfl⟩ : ∃ m : Nat, n = m := ⟨n.toNat, by omega⟩
  simp [Int.tmod_eq_emod_of_nonneg]
 rw [hm, hd]
 unfold toCome
 rw [if_neg (by omega)]
 simp only [Int.toNat_natCast]
 conv => lhs; rw [Lib.decDigits]
 by_cases h1 : n.toNat < 10
 ·rw [dif_pos h1, if_pos (by have : n.toNat / 10 = 0 := by omega
                             rw [this]; rfl)]
  rw [Nat.mod_eq_of_lt h1]; rfl
 ·rw [dif_neg h1, if_neg (by omega)]
theorem wrap8 (x : Int) (h0 : 0 ≤ x) (h1 : x ≤ 255) : IntKind.u8.wrap x = x := by
 simp [IntKind.wrap, IntKind.signed, IntKind.bits]; omega
theorem tdm10 {n : Int} (h : 0 < n) : 0 ≤ n.tdiv 10 ∧ n.tdiv 10 < n ∧ 0 ≤ n.tmod 10 ∧ n.tmod 10 ≤ 9 := by
 have := Int.tdiv_eq_ediv_of_nonneg (a := n) (b := 10) (by omega)
 have := Int.tmod_eq_emod_of_nonneg (a := n) (b := 10) (by omega)
 omega
end Go.Eng
set_option linter.unusedVariables false
set_option linter.unusedSimpArgs false
namespace Go.Proofs.YtjgliechbnommaaGreatDoor
open Go.Eng Go.ChangeShapes Go.WideShapes
section
variable {H : Type} {enc : TypeId × Value → H} {P : Program} {W : World} {base : Nat} {sp : Nat → Bool} {held : Bool}
theorem zsum : ∀ ks : List Int, (ks.map fun _ => (0 : Int)).sum = 0
 | [] => rfl
 | _ :: r => by simp [zsum r]
theorem rdBytes {tU tL : TypeId} (hu : P.underlying tU = some (.int .u8)) (hcB : P.cellsOf tU = 1) (hs : P.underlying tL = some (.slice tU)) {v : Value} {d : DataW H} {p : List MemPlace} (hv : Value.okWide P W .any base tL v) (h : TrodA enc P W tL v d p) (hb : Rows.uptoBulk d ≤ 1048576) :
 ∃ ss : List Int, RD (below W) W (.sl .one (u8s ss)) v ∧ (ss.length : Int) + 1 ≤ (Rows.uptoBulk d : Int) := by
 obtain ⟨n, hn⟩ := h
 obtain ⟨a, len, cap, rfl⟩ := okWide_slice hs hv
 obtain ⟨ks, h1, h2⟩ := read_slice (l := .one) (fun k : Int => .c (.int .u8 k)) (fun _ => (0 : Int)) hs hcB (by decide) (fun n cs x hx hb => by
  obtain ⟨k', rfl, e2, hw⟩ := DataW.trod_int hu hx
  subst e2
  exact ⟨k', by unfold DC; exact ⟨rfl, rfl⟩, rfl, by simp [Rows.uptoBulk]⟩) n _ _ hn hb
 rw [zsum] at h2
 exact ⟨ks, ⟨h1, rfl⟩, by have h3 : (ks.length : Int) + 0 + 1 ≤ (Rows.uptoBulk d : Int) := h2; omega⟩
structure DbTy (P : Program) (tD tCS tBS tC tB : TypeId) : Prop where
 uD : ∃ f0 f1 : Field, P.underlying tD = some (.struct #[f0, f1]) ∧ f0.type = tCS ∧ f0.offset = 0 ∧ f1.type = tBS ∧ f1.offset = 1
 uC : P.underlying tCS = some (.slice tC)
 uB : P.underlying tBS = some (.slice tB)
 cD : P.cellsOf tD = 2
 cC : P.cellsOf tCS = 1
 cB : P.cellsOf tBS = 1
end
end Go.Proofs.YtjgliechbnommaaGreatDoor
set_option linter.unusedVariables false
set_option linter.unusedSimpArgs false
namespace Go.Eng
structure Jx (A : Type) where
 J : A → List Nat → World → Prop
 stab : ∀ a F w w', J a F w → (∀ b ∈ F, w'.heap[b]? = w.heap[b]?) → J a F w'
 lt : ∀ a F w, J a F w → ∀ b ∈ F, b < w.heap.size
def FCall {A : Type} (P : Program) (k : FuncId) (J : Jx A) (ds : List D) (a a' : A) : Prop :=
 ∀ (w : World) (S : Nat → Prop) (vs : List Value) (F : List Nat), (∀ b, S b → b < w.heap.size) → Tab P S w → All2 (RD S w) ds vs → J.J a F w → (∀ b ∈ F, ¬ S b) →
  Calls P k vs.toArray w fun en w' => ∃ x F', en = .returned x ∧ J.J a' F' w' ∧ (∀ b ∈ F', b ∈ F ∨ w.heap.size ≤ b) ∧ Pres (fun b => b ∈ F) w w'
section
variable {P : Program} {C : Cx} {n : Nat} {f : Fr} {L : Hp} {Q : AQ} {ops : Array Oper} {rest : List Oper} {dst : Option Tmp} {ty : TypeId} {pos : String} {after : Array Edge} {A : Type}
structure Jh (J : Jx A) (C : Cx) (a : A) (F : List Nat) : Prop where
 j : J.J a F C.w0
 dm : ∀ b ∈ F, ¬ C.Dm b
 s0 : ∀ b ∈ F, ¬ C.S0 b
theorem Jh.ext {J : Jx A} {C' : Cx} {a : A} {F : List Nat} (h : Jh J C a F) (k : CExt C C') : Jh J C' a F := by
 have hl := J.lt _ _ _ h.j
 obtain ⟨h1, h2, h3⟩ := keep_ext k hl h.dm h.s0
 exact ⟨J.stab _ _ _ _ h.j h1, h2, h3⟩
theorem CT.marked {C' : Cx} {K : List Nat} (h : CT P C) (k : Mk C K C') (hK : ∀ b ∈ K, ¬ C.S0 b) : CT P C' := fun g hg => by
 obtain ⟨h1, h2, h3⟩ := h g hg
 have hl := TabIs_lt hg h3
 refine ⟨k.s0 g h1, fun hd => ?_, TabIs_same hg h3 (k.pres.block g hl fun hd => hd.elim h2 fun h4 => hK g h4 h1)⟩
 rcases k.dm g hd with h4 | h4
 ·exact h2 h4
 ·omega
inductive JFn (f : Fr) (k : FuncId) : Operand → List Value → Prop
 | plain {x : Operand} : ev f x = .d (.fn k []) → JFn f k x []
 | clo {x : Operand} {xs : List Value} : ev f x = .d (.c (.func (.func k) #[] xs.toArray)) → JFn f k x xs
theorem RDs_c {S : Nat → Prop} {w : World} : ∀ (xs : List Value), xs.all Value.scalar = true → All2 (RD S w) (xs.map D.c) xs
 | [], _ => .nil
 | x :: xs, h => by
   simp only [List.all_cons, Bool.and_eq_true] at h
   refine .cons ⟨?_, ?_⟩ (RDs_c xs h.2)
   ·rw [cells_scalar h.1]; unfold DC; exact ⟨rfl, h.1⟩
   ·rw [isAgg_scalar h.1]; rfl
theorem AL_jcall (hT : CT P C) {x : Operand} {args : Array Operand} {ts : Array TypeId} {k : FuncId} {ds : List D} {xs : List Value} {J : Jx A} {F : List Nat} {a0 a1 : A} (hx : JFn f k x xs) (hxs : xs.all Value.scalar = true) (hc : Callable P k)
 (ha : args.toList.map (ev f) = ds.map V.d) (hp : FCall P k J (ds ++ xs.map D.c) a0 a1) (hJ : Jh J C a0 F) (hd : dstOk n dst = true)
 (h : ∀ C' F', Mk C F C' → Jh J C' a1 F' → (∀ b ∈ F', b ∈ F ∨ C.w0.heap.size ≤ b) → CT P C' → AL P C' n ops rest Q (updo f dst .any) L) : AL P C n ops (⟨dst, callV x args ts, ty, pos, after, none⟩ :: rest) Q f L := by
 intro a w β S hr
 refine wpList_plain rfl fun Kc hK => ?_
 have hlt := J.lt _ _ _ hJ.j
 have hsz := hr.pres.size
 have hjw : J.J a0 F w := J.stab _ _ _ _ hJ.j fun b hb => hr.pres.block b (hlt b hb) (hJ.dm b hb)
 have notS : ∀ b ∈ F, ¬ S b := fun b hb hs => by
  rcases hr.fz b hs with h3 | h3 | h3
  ·exact hJ.s0 b hb h3
  ·have := hlt b hb; omega
  ·exact hJ.dm b hb h3
 have notB : ∀ b ∈ F, ∀ i bx c, L[i]? = some (some bx) → β i ≠ some (some (b, c)) := fun b hb i bx c hL hβ => by
  rcases hr.own i bx b c hL hβ with h3 | h3
  ·exact hJ.dm b hb h3
  ·have := hlt b hb; omega
 have hrun : (execOp a.eval ⟨dst, callV x args ts, ty, pos, after, none⟩).run P w = .ok (.enter k (args.map a.eval ++ xs.toArray)) w := by
  refine call_run hc ?_
  cases hx with
  | plain h =>
    have hv := rel_ev hr x
    rw [h] at hv
    obtain ⟨cv, k1, k2⟩ := VR_fn hv
    have hcv : cv = [] := by
     have := (DCs_len _ _ _ k2).1
     simpa [Lay.lens] using this
    subst hcv
    exact k1
  | clo h => exact eval_c hr h
 unfold Oper.wp
 rw [hrun, Oper.upon_enter]
 have hall := (args_RD hr args.toList ds ha).append (RDs_c (S := S) (w := w) xs hxs)
 have heq : (args.map a.eval ++ xs.toArray) = (args.toList.map a.eval ++ xs).toArray := by simp
 rw [heq]
 refine (hp w S _ F hr.hp.fz (hT.tab hr) hall hjw notS).mono ?_
 rintro e w' ⟨z, F', rfl, q1, q2, q3⟩
 have lat : Later β S w β S w' := ⟨fun _ _ h => h, fun _ h => h, fun b hb => q3.block b (hr.hp.fz b hb) fun h => notS b h hb⟩
 have hr2 : Rel ⟨w', boxBlk L β, S⟩ n f L a w' β S := by
  refine ⟨hr.df, hr.sz, fun i => VR_later lat (hr.fr i), ⟨fun i bx hi => BoxR_later lat (fun b c hb => q3.block b ((hr.hp.bx i bx hi).lt hb) fun h => notB b h i bx c hi hb) (hr.hp.bx i bx hi), hr.hp.inj, hr.hp.own, fun b hb => by have := hr.hp.fz b hb; have := q3.size; omega, hr.hp.un, hr.hp.ad⟩, fun i bx b c hL hb => .inl ⟨i, bx, c, hL, hb⟩, fun b hb => .inl hb, fun b hb => hb, Pres.refl _ _⟩
 have hmk : Mk C F ⟨w', boxBlk L β, S⟩ := by
  refine ⟨⟨q3.os.trans hr.pres.os, q3.tape.trans hr.pres.tape, q3.output.trans hr.pres.output, Nat.le_trans hsz q3.size, fun b hb hd => ?_⟩, fun b ⟨i, bx, c, hL, hb⟩ => hr.own i bx b c hL hb, hr.s0, hr.fz⟩
  exact (q3.block b (by omega) fun h => hd (.inr h)).trans (hr.pres.block b hb fun h => hd (.inl h))
 have hj' : Jh J ⟨w', boxBlk L β, S⟩ a1 F' := by
  refine ⟨q1, fun b hb ⟨i, bx, c, hL, hβ⟩ => ?_, fun b hb hs => ?_⟩
  ·rcases q2 b hb with h3 | h3
   ·exact notB b h3 i bx c hL hβ
   ·have := (hr.hp.bx i bx hL).lt hβ; omega
  ·rcases q2 b hb with h3 | h3
   ·exact notS b h3 hs
   ·have := hr.hp.fz b hs; omega
 exact hK _ _ (h _ F' hmk hj' (fun b hb => (q2 b hb).imp id fun h => by omega) (hT.marked hmk hJ.s0) _ _ _ _ (hr2.puto (dstOk_spec hd) (VR_any ..)))
end
def retJ {A : Type} (fn : Func) (P : Program) (w0 : World) (J : Jx A) (F : List Nat) (a1 : A) (a : Act) (w' : World) : Prop :=
 a.defers = [] ∧ ∃ y, (results fn a.tmps).run P w' = .ok y w' ∧ ∃ F', J.J a1 F' w' ∧ (∀ b ∈ F', b ∈ F ∨ w0.heap.size ≤ b) ∧ Pres (fun b => b ∈ F) w0 w'
def retJQ {A : Type} (fn : Func) (P : Program) (w0 : World) (J : Jx A) (F : List Nat) (a1 : A) : AQ := fun x a w => ends x = true ∧ retJ fn P w0 J F a1 a w
section
variable {P : Program} {C : Cx} {n : Nat} {f : Fr} {L : Hp} {A : Type}
theorem jend {C0 : Cx} {fn : Func} {J : Jx A} {F F' : List Nat} {a1 : A} {ex : Exit} (he : ends ex = true) (hx : Mk C0 F C) (hdm : ∀ b, ¬ C0.Dm b) (hres : fn.results.toList = []) (hJ : Jh J C a1 F') (hs : ∀ b ∈ F', b ∈ F ∨ C0.w0.heap.size ≤ b) : Fin C n (retJQ fn P C0.w0 J F a1 ex) f L := by
 intro a w β S hr
 obtain ⟨ys, hy, hall⟩ := RetV_run (P := P) hr (rs := fn.results.toList) (vs := []) (by rw [hres]; exact .nil)
 have hrun := results_run (fn := fn) hy
 refine ⟨he, hr.df, _, hrun, F', J.stab _ _ _ _ hJ.j fun b hb => hr.pres.block b (J.lt _ _ _ hJ.j b hb) (hJ.dm b hb), hs, ?_⟩
 have hsz := hx.pres.size
 refine ⟨hr.pres.os.trans hx.pres.os, hr.pres.tape.trans hx.pres.tape, hr.pres.output.trans hx.pres.output, Nat.le_trans hsz hr.pres.size, fun b hb hd => ?_⟩
 rw [hr.pres.block b (by omega) fun h => by
  rcases hx.dm b h with h1 | h1
  ·exact hdm b h1
  ·omega]
 exact hx.pres.block b hb fun h => h.elim (hdm b) hd
theorem FCall_of {k : FuncId} {fn : Func} {c : Code} {J : Jx A} {ds : List D} {a0 a1 : A} (hf : P.funcs[k]? = some fn) (hb : fn.body = some c) (hn : fn.ntmps = n) (hlen : ds.length ≤ n)
 (h : ∀ C0 F, (∀ b, ¬ C0.Dm b) → CT P C0 → Jh J C0 a0 F → AC P C0 n c (retJQ fn P C0.w0 J F a1) (fr0 ds) []) : FCall P k J ds a0 a1 := by
 intro w S vs F hS hT hd hJ hF
 refine calls_of_wp hf hb ?_
 subst hn
 refine wp_mono (h ⟨w, fun _ => False, S⟩ F (fun _ h => h) (CT.start hT fun _ _ h => h) ⟨hJ, fun _ _ h => h, hF⟩ _ w _ S (fr0_rel hlen hS hd)) ?_
 rintro e a w' ⟨hend, h1, x, h2, F', h3, h4, h5⟩
 have fin : a.defers = [] ∧ ∃ v, (results fn a.tmps).run P w' = .ok v w' ∧ ∃ x F', Ending.returned v = .returned x ∧ J.J a1 F' w' ∧ (∀ b ∈ F', b ∈ F ∨ w.heap.size ≤ b) ∧ Pres (fun b => b ∈ F) w w' :=
  ⟨h1, x, h2, x, F', rfl, h3, h4, h5⟩
 cases e with
 | normal => exact fin
 | ret => exact fin
 | _ => cases hend
end
def dmN (b0 : Nat) (o : Option (Nat × Nat)) (b : Nat) : Prop := b = b0 ∨ ∃ c, o = some (b, c)
def blkO : Option (Nat × Nat) → List Nat
 | none => []
 | some (b, _) => [b]
section
variable {P : Program} {C : Cx} {n : Nat} {f : Fr} {L : Hp} {Q : AQ} {ops : Array Oper} {rest : List Oper} {dst : Option Tmp} {ty : TypeId} {pos : String} {after : Array Edge}
theorem Rel.ncall {a : Act} {w w' : World} {β : Beta} {S S' : Nat → Prop} (h : Rel C n f L a w β S) {i j b0 c0 : Nat} {bi bj bi' bj' : Box} {o o' : Option (Nat × Nat)} (hLi : L[i]? = some (some bi)) (hLj : L[j]? = some (some bj)) (hij : i ≠ j)
 (hβi : β i = some (some (b0, c0))) (hβj : β j = some o) (hp : Pres (dmN b0 o) w w') (ho : ∀ b c, o' = some (b, c) → (∃ c', o = some (b, c')) ∨ w.heap.size ≤ b) (hns : ∀ b c, o' = some (b, c) → ¬ S' b) (su : ∀ b, S b → S' b)
 (hS : ∀ b, S' b → b < w'.heap.size ∧ (S b ∨ w.heap.size ≤ b ∨ ∃ c, o = some (b, c))) (hbi : ∀ β' : Beta, β' i = some (some (b0, c0)) → β' L.length = some o' → BoxR β' S' w' i bi') (hbj : ∀ β' : Beta, β' L.length = some o' → BoxR β' S' w' L.length bj') (hni : bi'.ty.ad = bi.ty.ad := by rfl) (hnj : bj'.ty.ad = none := by rfl) :
 Rel C n f ((L.set i (some bi')).set j none ++ [some bj']) a w' (setβ β L.length o') S' := by
 have hi : i < L.length := lt_of_get hLi
 have hj : j < L.length := lt_of_get hLj
 have old : ∀ b, b < w.heap.size → (∀ c, β i ≠ some (some (b, c))) → (∀ c, β j ≠ some (some (b, c))) → w'.heap[b]? = w.heap[b]? := fun b hb h1 h2 => hp.block b hb (fun hd => by
  rcases hd with rfl | ⟨c, hc⟩
  ·exact h1 c0 hβi
  ·exact h2 c (by rw [hβj, hc]))
 have lat : Later β S w (setβ β L.length o') S' w' := by
  refine ⟨fun m oo hm => ?_, su, fun b hb => old b (h.hp.fz b hb) (fun c hc => h.hp.own i bi b c hLi hc hb) fun c hc => h.hp.own j bj b c hLj hc hb⟩
  by_cases e : m = L.length
  ·subst e; rw [h.hp.un _ (Nat.le_refl _)] at hm; cases hm
  ·rw [setβ_ne _ _ e]; exact hm
 have cases_ : ∀ m b, ((L.set i (some bi')).set j none ++ [some bj'])[m]? = some (some b) → (m < L.length ∧ m ≠ j ∧ (∃ b', L[m]? = some (some b')) ∧ ((m ≠ i ∧ L[m]? = some (some b)) ∨ (m = i ∧ bi' = b))) ∨ (m = L.length ∧ bj' = b) := fun m b hm => by
  rcases get_snoc _ _ _ _ hm with ⟨h1, h2⟩ | ⟨h1, h2⟩
  ·rw [List.getElem?_set] at h2
   simp only [List.length_set] at h1 h2
   by_cases e : j = m
   ·subst e
    rw [if_pos rfl, if_pos hj] at h2
    cases h2
   ·rw [if_neg e, List.getElem?_set] at h2
    by_cases e2 : i = m
    ·subst e2
     rw [if_pos rfl, if_pos hi] at h2
     injection h2 with h2; injection h2 with h2
     exact .inl ⟨h1, fun h => e h.symm, ⟨_, hLi⟩, .inr ⟨rfl, h2⟩⟩
    ·rw [if_neg e2] at h2
     exact .inl ⟨h1, fun h => e h.symm, ⟨_, h2⟩, .inl ⟨fun h => e2 h.symm, h2⟩⟩
  ·exact .inr ⟨by simpa using h1, by injection h2⟩
 have newb : ∀ b c, o' = some (b, c) → ∀ m, m < L.length → m ≠ j → ∀ bm cm, L[m]? = some (some bm) → β m ≠ some (some (b, cm)) := fun b c hob m hm hne bm cm hLm hbm => by
  rcases ho b c hob with ⟨c', hc'⟩ | hb
  ·exact hne (h.hp.inj m j b bm bj cm c' hLm hLj hbm (by rw [hβj, hc']))
  ·have := (h.hp.bx m bm hLm).lt hbm
   omega
 refine h.later lat ⟨?_, ?_, ?_, ?_, ?_, ?_⟩ ?_ ?_ ?_
 ·intro m b hm
  rcases cases_ m b hm with ⟨h1, h2, _, h3 | ⟨rfl, rfl⟩⟩ | ⟨rfl, rfl⟩
  ·exact BoxR_later lat (fun b' c hb => old b' ((h.hp.bx m b h3.2).lt hb) (fun c' hc' => h3.1 (h.hp.inj m i b' b bi c c' h3.2 hLi hb hc')) fun c' hc' => h2 (h.hp.inj m j b' b bj c c' h3.2 hLj hb hc')) (h.hp.bx m b h3.2)
  ·exact hbi _ (by rw [setβ_ne _ _ (by omega)]; exact hβi) (setβ_self _ _ _)
  ·exact hbj _ (setβ_self _ _ _)
 ·intro m m' b b1 b2 c c' hm hm' hbm hbm'
  rcases cases_ m _ hm with ⟨h1, h2, ⟨y1, h3⟩, _⟩ | ⟨rfl, _⟩ <;> rcases cases_ m' _ hm' with ⟨k1, k2, ⟨y2, k3⟩, _⟩ | ⟨rfl, _⟩
  ·rw [setβ_ne _ _ (by omega)] at hbm hbm'
   exact h.hp.inj m m' b y1 y2 c c' h3 k3 hbm hbm'
  ·rw [setβ_ne _ _ (by omega)] at hbm
   rw [setβ_self] at hbm'
   injection hbm' with hbm'
   exact absurd hbm (newb b c' hbm' m h1 h2 _ _ h3)
  ·rw [setβ_ne _ _ (by omega)] at hbm'
   rw [setβ_self] at hbm
   injection hbm with hbm
   exact absurd hbm' (newb b c hbm m' k1 k2 _ _ k3)
  ·rfl
 ·intro m b1 b c hm hbm hs
  rcases cases_ m _ hm with ⟨h1, h2, ⟨y1, h3⟩, _⟩ | ⟨rfl, _⟩
  ·rw [setβ_ne _ _ (by omega)] at hbm
   rcases (hS b hs).2 with h4 | h4 | ⟨c4, h4⟩
   ·exact h.hp.own m y1 b c h3 hbm h4
   ·have := (h.hp.bx m y1 h3).lt hbm; omega
   ·exact h2 (h.hp.inj m j b y1 bj c c4 h3 hLj hbm (by rw [hβj, h4]))
  ·rw [setβ_self] at hbm
   injection hbm with hbm
   exact hns b c hbm hs
 ·intro b hb
  exact (hS b hb).1
 ·intro m hm
  simp at hm
  rw [setβ_ne _ _ (by omega)]
  exact h.hp.un m (by omega)
 ·intro m b1 q hm hq
  rcases cases_ m b1 hm with ⟨h1, h2, _, h3 | ⟨rfl, rfl⟩⟩ | ⟨rfl, rfl⟩
  ·rw [setβ_ne _ _ (by omega)]
   exact h.hp.ad m b1 q h3.2 hq
  ·rw [setβ_ne _ _ (by omega)]
   exact h.hp.ad _ bi q hLi (by rw [← hni]; exact hq)
  ·rw [hnj] at hq; cases hq
 ·intro m b1 b c hm hbm
  rcases cases_ m _ hm with ⟨h1, h2, ⟨y1, h3⟩, _⟩ | ⟨rfl, _⟩
  ·rw [setβ_ne _ _ (by omega)] at hbm
   exact h.own m y1 b c h3 hbm
  ·rw [setβ_self] at hbm
   injection hbm with hbm
   rcases ho b c hbm with ⟨c', hc'⟩ | hb
   ·exact h.own j bj b c' hLj (by rw [hβj, hc'])
   ·have := h.pres.size
    exact .inr (by omega)
 ·intro b hb
  rcases (hS b hb).2 with h1 | h1 | ⟨c1, h1⟩
  ·exact h.fz b h1
  ·have := h.pres.size
   exact .inr (.inl (by omega))
  ·exact .inr (h.own j bj b c1 hLj (by rw [hβj, h1])).symm
 ·refine ⟨hp.os.trans h.pres.os, hp.tape.trans h.pres.tape, hp.output.trans h.pres.output, by have := h.pres.size; have := hp.size; omega, fun b hb hd => ?_⟩
  have hsz := h.pres.size
  refine (old b (by omega) (fun c hc => ?_) fun c hc => ?_).trans (h.pres.block b hb hd)
  ·rcases h.own i bi b c hLi hc with h1 | h1
   ·exact hd h1
   ·omega
  ·rcases h.own j bj b c hLj hc with h1 | h1
   ·exact hd h1
   ·omega
end
def Jl (t0 e : TypeId) (b0 c0 : Nat) : Jx (List ByteArray) where
 J xs F w := ∃ o A cur, w.heap[b0]? = some (.cells cur t0 (0, 0)) ∧ cur.size = c0 ∧ 1 ≤ c0 ∧ c0 ≤ maxLen ∧ cur[0]? = some A ∧ LB (fun _ => False) w e .one (strs xs) A o ∧ (∀ c, o ≠ some (b0, c)) ∧ F = b0 :: blkO o
 stab := by
  rintro xs F w w' ⟨o, A, cur, h1, h2, h3, h4, h5, ⟨h6, h7, h8⟩, h9, rfl⟩ hs
  refine ⟨o, A, cur, (hs b0 (by simp)).trans h1, h2, h3, h4, h5, ⟨?_, ?_, fun _ _ _ h => h⟩, h9, rfl⟩
  ·refine BoxR_later (β := β1 o) (S := fun _ => False) (w := w) ⟨fun _ _ h => h, fun _ h => h, fun _ h => h.elim⟩ (fun b c hb => hs b ?_) h6
   have : o = some (b, c) := by simpa using hb
   subst this
   simp [blkO]
  ·exact VC_later (β := β1 o) (S := fun _ => False) (w := w) ⟨fun _ _ h => h, fun _ h => h, fun _ h => h.elim⟩ _ _ h7
 lt := by
  rintro xs F w ⟨o, A, cur, h1, h2, h3, h4, h5, ⟨h6, h7, h8⟩, h9, rfl⟩ b hb
  rcases List.mem_cons.1 hb with rfl | hb
  ·exact (Array.getElem?_eq_some_iff.1 h1).1
  ·cases o with
   | none => cases hb
   | some q =>
     obtain ⟨b', c'⟩ := q
     simp only [blkO, List.mem_singleton] at hb
     subst hb
     exact h6.lt (show β1 (some (b, c')) 0 = some (some (b, c')) by simp)
end Go.Eng
set_option linter.unusedVariables false
set_option linter.unusedSimpArgs false
namespace Go.Eng
def MWk (P : Program) (k : FuncId) (d : D) (m m' : Int) : Prop :=
 ∀ (w : World) (x : Value) (K : List Nat), Tr w d x.cells.toList K → d.isAgg = isAggV x → Calls P k #[x, .int .i64 m] w fun e w' => e = .returned (.int .i64 m') ∧ Pres (fun b => b ∈ K) w w'
def retMW (fn : Func) (P : Program) (w0 : World) (K : List Nat) (m' : Int) (a : Act) (w' : World) : Prop :=
 a.defers = [] ∧ (results fn a.tmps).run P w' = .ok (.int .i64 m') w' ∧ Pres (fun b => b ∈ K) w0 w'
def retMWQ (fn : Func) (P : Program) (w0 : World) (K : List Nat) (m' : Int) : AQ := fun e a w => ends e = true ∧ retMW fn P w0 K m' a w
section
variable {P : Program} {C : Cx} {n : Nat} {f : Fr} {L : Hp} {Q : AQ} {ops : Array Oper} {rest : List Oper} {dst : Option Tmp} {ty : TypeId} {pos : String} {after : Array Edge}
end
abbrev vs (s : ByteArray) : Value := .string s
theorem strs_Trs {w : World} : ∀ (xs : List ByteArray), Trs w (List.replicate xs.length .one) (strs xs) (xs.map vs) []
 | [] => by simp [strs, Trs]
 | x :: xs => by
   simp only [strs, List.map_cons, List.length_cons, List.replicate_succ, Trs]
   exact ⟨_, _, [vs x], xs.map vs, [], [], rfl, rfl, rfl, rfl, by simp, by simp [Tr, Value.scalar], strs_Trs xs⟩
def txts (k : Int) : Nat → List ByteArray
 | 0 => []
 | n + 1 => mtext k :: txts (k + 1) n
@[simp] theorem txts_length : ∀ (n : Nat) (k : Int), (txts k n).length = n
 | 0, _ => rfl
 | n + 1, k => by simp [txts, txts_length n]
def flatC : List Cl → List T
 | [] => []
 | c :: r => c.h :: c.b :: flatC r
def cntC (c : Cl) : Int := 7 + cntL c.h.kids + cntL c.b.kids
def cntCs : List Cl → Int
 | [] => 0
 | c :: r => cntC c + cntCs r
def ShC (cur As : List Value) (n : Nat) : Prop := ∀ j, j < n → cur[9 * j + 3]? = As[2 * j]? ∧ cur[9 * j + 7]? = As[2 * j + 1]?
theorem ShC.set {cur As : List Value} {n : Nat} (h : ShC cur As n) (p : Nat) (v : Value) (hp : ∀ j, p ≠ 9 * j + 3 ∧ p ≠ 9 * j + 7) : ShC (cur.set p v) As n := fun j hj => by
 rw [List.getElem?_set_ne (hp j).1, List.getElem?_set_ne (hp j).2]
 exact h j hj
theorem OwVs_strs {B : Nat} {C : Cx} {L : Hp} {xs : List ByteArray} {m : Nat} (hm : xs.length = m) : OwVs B C L (List.replicate m .one) ((strs xs).map V.d) (strs xs) [] [] := by
 subst hm
 have := OwVs.scal (B := B) (C := C) (L := L) (l := .one) (xs := xs.map fun n => Value.string n)
 rw [List.map_map, List.map_map, List.length_map] at this
 unfold strs
 rw [List.map_map]
 exact this
theorem VwL_of {L : Hp} {src : List (Option Nat)} {es : List V} {zs : List D} (h : es = zs.map V.d) : VwL L src es (zs.map V.d) := by subst h; exact VwL_d _
@[simp] theorem injC_lenL (c : Cl) : (injC c).len? = LC.len := rfl
def zC : D := .agg [LT, LT, .one] [zT, zT, .c (.string ⟨#[]⟩)]
def fillS (ss : List ByteArray) (j : Nat) : List D := strs (ss.take j) ++ List.replicate (ss.length - j) (.c (.string ⟨#[]⟩))
@[simp] theorem fillS_len (ss : List ByteArray) (j : Nat) : (fillS ss j).length = ss.length := by simp [fillS]; omega
theorem fillS_get {ss : List ByteArray} {j : Nat} (h : j < ss.length) : ((fillS ss j).map V.d)[0 + j]? = some (.d (.c (.string ⟨#[]⟩))) := by
 simp only [fillS, List.map_append, Nat.zero_add]
 rw [List.getElem?_append_right (by simp; omega)]
 simp [List.getElem?_replicate]
 omega
@[simp] theorem injD_lenL (d : Dbt) : (injD d).len? = LD.len := by cases d; rfl
@[simp] theorem injD_agL (d : Dbt) : LD.ag = (injD d).isAgg := by cases d; rfl
theorem ReadsL_eq {L : Hp} {F : Nat → Prop} {es : List V} {xs : List D} (h : es = xs.map V.d) : ReadsL L F es xs := h ▸ ReadsL_d xs
end Go.Eng
set_option linter.unusedVariables false
namespace Go.Eng
def ctlL : List ByteArray := [⟨#[116, 114, 117, 101, 47, 48]⟩,
 ⟨#[102, 97, 105, 108, 47, 48]⟩,
 ⟨#[33, 47, 48]⟩,
 ⟨#[44, 47, 50]⟩,
 ⟨#[59, 47, 50]⟩,
 ⟨#[45, 62, 47, 50]⟩,
 ⟨#[92, 43, 47, 49]⟩,
 ⟨#[99, 97, 108, 108, 47, 49]⟩,
 ⟨#[99, 97, 108, 108, 47, 50]⟩,
 ⟨#[99, 97, 108, 108, 47, 51]⟩,
 ⟨#[99, 97, 116, 99, 104, 47, 51]⟩,
 ⟨#[116, 104, 114, 111, 119, 47, 49]⟩,
 ⟨#[61, 47, 50]⟩,
 ⟨#[92, 61, 47, 50]⟩,
 ⟨#[61, 61, 47, 50]⟩,
 ⟨#[105, 115, 47, 50]⟩,
 ⟨#[60, 47, 50]⟩,
 ⟨#[61, 58, 61, 47, 50]⟩,
 ⟨#[118, 97, 114, 47, 49]⟩,
 ⟨#[97, 116, 111, 109, 47, 49]⟩,
 ⟨#[119, 114, 105, 116, 101, 47, 49]⟩,
 ⟨#[97, 115, 115, 101, 114, 116, 122, 47, 49]⟩,
 ⟨#[114, 101, 116, 114, 97, 99, 116, 47, 49]⟩,
 ⟨#[58, 45, 47, 50]⟩,
 ⟨#[58, 45, 47, 49]⟩,
 ⟨#[45, 45, 62, 47, 50]⟩]
def ctlB (s : ByteArray) : Bool := hasS ctlL s
abbrev cComma : ByteArray := ⟨#[44, 47, 50]⟩
abbrev cSemi : ByteArray := ⟨#[59, 47, 50]⟩
abbrev cArrow : ByteArray := ⟨#[45, 62, 47, 50]⟩
abbrev cNot : ByteArray := ⟨#[92, 43, 47, 49]⟩
abbrev cCall : ByteArray := ⟨#[99, 97, 108, 108, 47, 49]⟩
abbrev cCatch : ByteArray := ⟨#[99, 97, 116, 99, 104, 47, 51]⟩
theorem digits_last (n : Nat) : ∃ l, Lib.decDigits n = l ++ [UInt8.ofNat (48 + n % 10)] ∧ (10 ≤ n → l = Lib.decDigits (n / 10)) ∧ (n < 10 → l = []) := by
 rw [Lib.decDigits]
 by_cases h : n < 10
 ·rw [dif_pos h]
  exact ⟨[], by rw [Nat.mod_eq_of_lt h]; rfl, fun h2 => by omega, fun _ => rfl⟩
 ·rw [dif_neg h]
  exact ⟨_, rfl, fun _ => rfl, fun h2 => absurd h2 h⟩
theorem dig_ne (k : Nat) (h : k < 10) : UInt8.ofNat (48 + k) ≠ 47 := by
 intro e
 have := congrArg UInt8.toNat e
 rw [UInt8.toNat_ofNat'] at this
 have h2 : (47 : UInt8).toNat = 47 := rfl
 rw [h2, Nat.mod_eq_of_lt (by omega)] at this
 omega
theorem dig_inj {k m : Nat} (hk : k < 10) (hm : m < 10) (h : UInt8.ofNat (48 + k) = UInt8.ofNat (48 + m)) : k = m := by
 have := congrArg UInt8.toNat h
 rw [UInt8.toNat_ofNat', UInt8.toNat_ofNat', Nat.mod_eq_of_lt (by omega), Nat.mod_eq_of_lt (by omega)] at this
 omega
theorem predS_kids {t : T} (xs : List UInt8) {s : ByteArray} (d : Nat) (hd : d < 10) (he : s.data.toList = xs ++ [47] ++ [UInt8.ofNat (48 + d)]) (h : predS t = s) : t.kids.length = d := by
 subst h
 unfold predS at he
 by_cases hk : t.kind = 2 ∨ t.kind = 4
 ·rw [if_pos hk, ba_app, ba_app, dec_pos (by omega), Int.toNat_natCast] at he
  obtain ⟨l, e1, e2, e3⟩ := digits_last t.kids.length
  rw [e1, ← List.append_assoc] at he
  obtain ⟨h1, h2⟩ := List.append_inj' he rfl
  have hm := dig_inj (Nat.mod_lt _ (by omega)) hd (by simpa using h2)
  by_cases h10 : t.kids.length < 10
  ·rw [Nat.mod_eq_of_lt h10] at hm; exact hm
  ·rw [e2 (by omega)] at h1
   obtain ⟨l2, f1, _, _⟩ := digits_last (t.kids.length / 10)
   rw [f1, ← List.append_assoc] at h1
   have h3 := (List.append_inj' h1 rfl).2
   exact absurd (by simpa using h3) (dig_ne _ (Nat.mod_lt _ (by omega)))
 ·rw [if_neg hk] at he
  simp at he
theorem len2 {α : Type} {l : List α} (h : l.length = 2) : ∃ x y, l = [x, y] := by
 match l, h with
 | [x, y], _ => exact ⟨x, y, rfl⟩
theorem len1 {α : Type} {l : List α} (h : l.length = 1) : ∃ x, l = [x] := by
 match l, h with
 | [x], _ => exact ⟨x, rfl⟩
theorem len3 {α : Type} {l : List α} (h : l.length = 3) : ∃ x y z, l = [x, y, z] := by
 match l, h with
 | [x, y, z], _ => exact ⟨x, y, z, rfl⟩
section
variable {A : Type}
def actF (step : A → ByteArray → Bool → A) (p : ByteArray) (fs : List (Bool → A → A)) (neg : Bool) (a : A) : A :=
 if p = cComma ∨ p = cSemi ∨ p = cArrow then (match fs with | f :: g :: _ => g neg (f neg a) | _ => a)
 else if p = cNot then (match fs with | f :: _ => f true a | _ => a)
 else if p = cCall then (match fs with | f :: _ => f neg a | _ => a)
 else if p = cCatch then (match fs with | f :: _ :: g :: _ => g neg (f neg a) | _ => a)
 else if p = ⟨#[]⟩ ∨ ctlB p = true then a else step a p neg
mutual
def eachF (step : A → ByteArray → Bool → A) : T → Bool → A → A
 | .mk k s m ks => actF step (predS (.mk k s m ks)) (eachFs step ks)
def eachFs (step : A → ByteArray → Bool → A) : List T → List (Bool → A → A)
 | [] => []
 | t :: r => eachF step t :: eachFs step r
end
theorem eachF_mk (step : A → ByteArray → Bool → A) (k : Int) (s : ByteArray) (m : Int) (ks : List T) (neg : Bool) (a : A) : eachF step (.mk k s m ks) neg a = actF step (predS (.mk k s m ks)) (eachFs step ks) neg a := by rw [eachF]
end
def stepO (a : List ByteArray) (s : ByteArray) (_ : Bool) : List ByteArray := onceL a s
def callsF (t : T) (a : List ByteArray) : List ByteArray := eachF stepO t false a
mutual
theorem eachF_neg : ∀ (t : T) (n m : Bool) (a : List ByteArray), eachF stepO t n a = eachF stepO t m a
 | .mk k s mm ks, n, m, a => by
   rw [eachF_mk, eachF_mk]
   have h := eachFs_neg ks
   generalize eachFs stepO ks = fs at h
   unfold actF
   have e1 : ∀ f ∈ fs, ∀ x y b, f x b = f y b := h
   split
   ·match fs, e1 with
    | [], _ => rfl
    | [f], _ => rfl
    | f :: g :: _, e1 => simp only; rw [e1 f (by simp) n m, e1 g (by simp) n m]
   ·split
    ·rfl
    ·split
     ·match fs, e1 with
      | [], _ => rfl
      | f :: _, e1 => exact e1 f (by simp) n m a
     ·split
      ·match fs, e1 with
       | [], _ => rfl
       | [f], _ => rfl
       | [f, g], _ => rfl
       | f :: _ :: g :: _, e1 => simp only; rw [e1 f (by simp) n m, e1 g (by simp) n m]
      ·rfl
theorem eachFs_neg : ∀ (ks : List T), ∀ f ∈ eachFs stepO ks, ∀ (n m : Bool) (a : List ByteArray), f n a = f m a
 | [], f, hf, _, _, _ => by simp [eachFs] at hf
 | t :: r, f, hf, n, m, a => by
   rw [eachFs] at hf
   rcases List.mem_cons.1 hf with rfl | hf
   ·exact eachF_neg t n m a
   ·exact eachFs_neg r f hf n m a
end
theorem actF_le {A : Type} {step : A → ByteArray → Bool → A} {μ : A → Int} {p : ByteArray} {ks : List T} {neg : Bool} {a : A} (hs : ∀ a s n, μ (step a s n) ≤ μ a + 1)
 (hk : ∀ t ∈ ks, ∀ n a, μ (eachF step t n a) ≤ μ a + sz t) : μ (actF step p (eachFs step ks) neg a) ≤ μ a + (1 + szs ks : Nat) := by
 unfold actF
 split
 ·match ks, hk with
  | [], _ => simp only [eachFs]; omega
  | [x], _ => simp only [eachFs]; omega
  | x :: y :: r, hk =>
    simp only [eachFs, szs]
    have := hk x (by simp) neg a
    have := hk y (by simp) neg (eachF step x neg a)
    push_cast at *
    omega
 ·split
  ·match ks, hk with
   | [], _ => simp only [eachFs]; omega
   | x :: r, hk => simp only [eachFs, szs]; have := hk x (by simp) true a; push_cast at *; omega
  ·split
   ·match ks, hk with
    | [], _ => simp only [eachFs]; omega
    | x :: r, hk => simp only [eachFs, szs]; have := hk x (by simp) neg a; push_cast at *; omega
   ·split
    ·match ks, hk with
     | [], _ => simp only [eachFs]; omega
     | [x], _ => simp only [eachFs]; omega
     | [x, y], _ => simp only [eachFs]; omega
     | x :: y :: z :: r, hk =>
       simp only [eachFs, szs]
       have := hk x (by simp) neg a
       have := hk z (by simp) neg (eachF step x neg a)
       push_cast at *
       omega
    ·split
     ·omega
     ·have := hs a p neg; omega
theorem eachF_le {A : Type} {step : A → ByteArray → Bool → A} {μ : A → Int} (hs : ∀ a s n, μ (step a s n) ≤ μ a + 1) (t : T) : ∀ (neg : Bool) (a : A), μ (eachF step t neg a) ≤ μ a + sz t := by
 induction t using T.ind with | h k s m ks ih => ?_
 intro neg a
 rw [eachF_mk]
 exact actF_le hs ih
theorem stepO_le (a : List ByteArray) (s : ByteArray) (n : Bool) : ((stepO a s n).length : Int) ≤ a.length + 1 := by
 have := onceL_len a s
 unfold stepO; omega
theorem callsF_len (t : T) (a : List ByteArray) : ((callsF t a).length : Int) ≤ a.length + sz t := eachF_le (μ := fun a => (a.length : Int)) stepO_le t false a
section
variable {A : Type} {step : A → ByteArray → Bool → A} {k m : Int} {s : ByteArray} {x y z : T} {ks : List T} {neg : Bool} {a : A}
theorem eachF_two (h : predS (.mk k s m [x, y]) = cComma ∨ predS (.mk k s m [x, y]) = cSemi ∨ predS (.mk k s m [x, y]) = cArrow) : eachF step (.mk k s m [x, y]) neg a = eachF step y neg (eachF step x neg a) := by
 rw [eachF_mk]; unfold actF; rw [if_pos h]; simp only [eachFs]
theorem eachF_not (h : predS (.mk k s m [x]) = cNot) : eachF step (.mk k s m [x]) neg a = eachF step x true a := by
 rw [eachF_mk]; unfold actF; rw [if_neg (by rw [h]; decide), if_pos h]; simp only [eachFs]
theorem eachF_call (h : predS (.mk k s m [x]) = cCall) : eachF step (.mk k s m [x]) neg a = eachF step x neg a := by
 rw [eachF_mk]; unfold actF; rw [if_neg (by rw [h]; decide), if_neg (by rw [h]; decide), if_pos h]; simp only [eachFs]
theorem eachF_catch (h : predS (.mk k s m [x, y, z]) = cCatch) : eachF step (.mk k s m [x, y, z]) neg a = eachF step z neg (eachF step x neg a) := by
 rw [eachF_mk]; unfold actF; rw [if_neg (by rw [h]; decide), if_neg (by rw [h]; decide), if_neg (by rw [h]; decide), if_pos h]; simp only [eachFs]
theorem eachF_end (h1 : decide (predS (.mk k s m ks) = cComma) = false) (h2 : decide (predS (.mk k s m ks) = cSemi) = false) (h3 : decide (predS (.mk k s m ks) = cArrow) = false) (h4 : decide (predS (.mk k s m ks) = cNot) = false) (h5 : decide (predS (.mk k s m ks) = cCall) = false)
 (h6 : decide (predS (.mk k s m ks) = cCatch) = false) : eachF step (.mk k s m ks) neg a = if predS (.mk k s m ks) = ⟨#[]⟩ ∨ ctlB (predS (.mk k s m ks)) = true then a else step a (predS (.mk k s m ks)) neg := by
 have h1 := of_decide_eq_false h1
 have h2 := of_decide_eq_false h2
 have h3 := of_decide_eq_false h3
 rw [eachF_mk]; unfold actF; rw [if_neg (by simp [h1, h2, h3]), if_neg (of_decide_eq_false h4), if_neg (of_decide_eq_false h5), if_neg (of_decide_eq_false h6)]
end
def callsIn (t : T) : List ByteArray := if okT t = true then callsF t [] else []
theorem callsIn_len (t : T) : ((callsIn t).length : Int) ≤ sz t := by
 unfold callsIn
 split
 ·have := callsF_len t []
  simpa using this
 ·simp
theorem bulk_mem {k m : Int} {s : ByteArray} {ks : List T} {B : Int} (h : bulk (.mk k s m ks) ≤ B) : ∀ u ∈ ks, bulk u ≤ B := (bulk_mk h).2.2
end Go.Eng
set_option linter.unusedVariables false
namespace Go.Eng
def clsOf : List Cl → ByteArray → List Cl
 | [], _ => []
 | c :: r, p => if predS c.h = p then c :: clsOf r p else clsOf r p
theorem clsOf_len (cs : List Cl) (p : ByteArray) : (clsOf cs p).length ≤ cs.length := by
 induction cs with
 | nil => simp [clsOf]
 | cons c r ih => simp only [clsOf]; split <;> simp <;> omega
theorem clsOf_mem {cs : List Cl} {p : ByteArray} {c : Cl} (h : c ∈ clsOf cs p) : c ∈ cs := by
 induction cs with
 | nil => simp [clsOf] at h
 | cons d r ih =>
   simp only [clsOf] at h
   split at h
   ·rcases List.mem_cons.1 h with rfl | h
    ·simp
    ·exact List.mem_cons_of_mem _ (ih h)
   ·exact List.mem_cons_of_mem _ (ih h)
def addAll (out : List ByteArray) : List ByteArray → List ByteArray
 | [] => out
 | x :: r => addAll (onceL out x) r
theorem addAll_len (xs : List ByteArray) : ∀ out : List ByteArray, (addAll out xs).length ≤ out.length + xs.length := by
 induction xs with
 | nil => intro out; simp [addAll]
 | cons x r ih =>
   intro out
   have := ih (onceL out x)
   have := onceL_len out x
   simp only [addAll, List.length_cons]; omega
def callsL : List Cl → List ByteArray → List ByteArray
 | [], out => out
 | c :: r, out => callsL r (addAll out (callsIn c.b))
def wC : List Cl → Nat
 | [] => 0
 | c :: r => (callsIn c.b).length + wC r
theorem wC_bulk (cs : List Cl) : (wC cs : Int) ≤ cs.length + bulkCs cs := by
 induction cs with
 | nil => simp [wC, bulkCs]
 | cons c r ih =>
   have h1 := callsIn_len c.b
   have h2 := sz_bulk c.b
   have h3 := bulk_nn c.h
   simp only [wC, bulkCs, bulkC, List.length_cons]
   push_cast
   omega
theorem wC_clsOf (cs : List Cl) (p : ByteArray) : wC (clsOf cs p) ≤ wC cs := by
 induction cs with
 | nil => simp [clsOf]
 | cons c r ih => simp only [clsOf]; split <;> simp only [wC] <;> omega
theorem callsL_len (cs : List Cl) : ∀ out : List ByteArray, (callsL cs out).length ≤ out.length + wC cs := by
 induction cs with
 | nil => intro out; simp [callsL]
 | cons c r ih =>
   intro out
   have := ih (addAll out (callsIn c.b))
   have := addAll_len (callsIn c.b) out
   simp only [callsL, wC]; omega
def callsOf (d : Dbt) (p : ByteArray) : List ByteArray := callsL (clsOf d.cs p) []
theorem callsOf_len (d : Dbt) (p : ByteArray) : ((callsOf d p).length : Int) ≤ d.cs.length + bulkCs d.cs := by
 have h1 := callsL_len (clsOf d.cs p) []
 have h2 := wC_clsOf d.cs p
 have h3 := wC_bulk d.cs
 unfold callsOf
 simp at h1
 omega
theorem ite_dec {α : Type} {p : Prop} [Decidable p] {a b : α} (h : decide p = true) : (if p then a else b) = a := if_pos (of_decide_eq_true h)
theorem ite_decn {α : Type} {p : Prop} [Decidable p] {a b : α} (h : decide p = false) : (if p then a else b) = b := if_neg (of_decide_eq_false h)
end Go.Eng
set_option linter.unusedVariables false
set_option linter.unusedSimpArgs false
namespace Go.Eng
theorem hasS_iff {xs : List ByteArray} {s : ByteArray} : hasS xs s = true ↔ s ∈ xs := by
 induction xs with
 | nil => simp [hasS]
 | cons x r ih => simp only [hasS, Bool.or_eq_true, decide_eq_true_eq, ih, List.mem_cons]; exact or_congr eq_comm Iff.rfl
theorem onceL_mem {xs : List ByteArray} {s y : ByteArray} : y ∈ onceL xs s ↔ y ∈ xs ∨ y = s := by
 unfold onceL
 by_cases h : hasS xs s = true
 ·rw [if_pos h]
  have := hasS_iff.1 h
  exact ⟨.inl, fun h2 => h2.elim id fun e => e ▸ this⟩
 ·rw [if_neg h]; simp
theorem onceL_nodup {xs : List ByteArray} {s : ByteArray} (h : xs.Nodup) : (onceL xs s).Nodup := by
 unfold onceL
 split
 ·exact h
 ·rename_i h2
  have hn : s ∉ xs := fun hm => h2 (hasS_iff.2 hm)
  rw [List.nodup_append]
  exact ⟨h, by simp, fun a ha b hb e => by simp at hb; subst hb; exact hn (e ▸ ha)⟩
theorem addAll_mem {ys : List ByteArray} : ∀ {xs : List ByteArray} {y : ByteArray}, y ∈ addAll xs ys ↔ y ∈ xs ∨ y ∈ ys := by
 induction ys with
 | nil => intro xs y; simp [addAll]
 | cons z r ih => intro xs y; rw [addAll, ih, onceL_mem, List.mem_cons, or_assoc]
theorem addAll_nodup {ys : List ByteArray} : ∀ {xs : List ByteArray}, xs.Nodup → (addAll xs ys).Nodup := by
 induction ys with
 | nil => intro xs h; exact h
 | cons z r ih => intro xs h; exact ih (onceL_nodup h)
def uC : List Cl → List ByteArray
 | [] => []
 | c :: r => callsIn c.b ++ uC r
theorem uC_len (cs : List Cl) : (uC cs).length = wC cs := by
 induction cs with
 | nil => rfl
 | cons c r ih => simp [uC, wC, ih]
theorem uC_mem {cs : List Cl} {c : Cl} {y : ByteArray} (h : c ∈ cs) (hy : y ∈ callsIn c.b) : y ∈ uC cs := by
 induction cs with
 | nil => cases h
 | cons d r ih =>
   rcases List.mem_cons.1 h with rfl | h
   ·simp [uC, hy]
   ·simp [uC, ih h]
theorem callsL_mem {cs : List Cl} : ∀ {out : List ByteArray} {y : ByteArray}, y ∈ callsL cs out → y ∈ out ∨ ∃ c ∈ cs, y ∈ callsIn c.b := by
 induction cs with
 | nil => intro out y h; exact .inl h
 | cons c r ih =>
   intro out y h
   rcases ih h with h | ⟨d, hd, h⟩
   ·rcases addAll_mem.1 h with h | h
    ·exact .inl h
    ·exact .inr ⟨c, by simp, h⟩
   ·exact .inr ⟨d, by simp [hd], h⟩
theorem callsL_nodup {cs : List Cl} : ∀ {out : List ByteArray}, out.Nodup → (callsL cs out).Nodup := by
 induction cs with
 | nil => intro out h; exact h
 | cons c r ih => intro out h; exact ih (addAll_nodup h)
theorem callsOf_sub {d : Dbt} {p y : ByteArray} (h : y ∈ callsOf d p) : y ∈ uC d.cs := by
 rcases callsL_mem h with h | ⟨c, hc, h⟩
 ·cases h
 ·exact uC_mem (clsOf_mem hc) h
theorem callsOf_nodup (d : Dbt) (p : ByteArray) : (callsOf d p).Nodup := callsL_nodup List.nodup_nil
def rem (x : ByteArray) : List ByteArray → List ByteArray
 | [] => []
 | y :: r => if y = x then r else y :: rem x r
theorem rem_len {x : ByteArray} {U : List ByteArray} (h : x ∈ U) : (rem x U).length + 1 = U.length := by
 induction U with
 | nil => cases h
 | cons y r ih =>
   simp only [rem]
   split
   ·simp
   ·rename_i hne
    rcases List.mem_cons.1 h with h | h
    ·exact absurd h.symm hne
    ·simp [ih h]
theorem rem_mem {x z : ByteArray} {U : List ByteArray} (h : z ∈ U) (hne : z ≠ x) : z ∈ rem x U := by
 induction U with
 | nil => cases h
 | cons y r ih =>
   simp only [rem]
   rcases List.mem_cons.1 h with rfl | h
   ·rw [if_neg hne]; simp
   ·split
    ·exact h
    ·exact List.mem_cons_of_mem _ (ih h)
theorem nodup_sub_len {xs : List ByteArray} : ∀ {U : List ByteArray}, xs.Nodup → (∀ x ∈ xs, x ∈ U) → xs.length ≤ U.length := by
 induction xs with
 | nil => intro U _ _; simp
 | cons x r ih =>
   intro U hn hs
   rw [List.nodup_cons] at hn
   have h1 := ih (U := rem x U) hn.2 fun z hz => rem_mem (hs z (by simp [hz])) fun e => hn.1 (e ▸ hz)
   have h2 := rem_len (hs x (by simp))
   simp only [List.length_cons]; omega
structure OkR (d : Dbt) (out : List ByteArray) : Prop where
 nd : out.Nodup
 sub : ∀ x ∈ out, x ∈ uC d.cs
theorem OkR.len {d : Dbt} {out : List ByteArray} (h : OkR d out) : out.length ≤ wC d.cs := uC_len d.cs ▸ nodup_sub_len h.nd h.sub
theorem OkR.start (d : Dbt) (p : ByteArray) : OkR d (callsOf d p) := ⟨callsOf_nodup d p, fun _ h => callsOf_sub h⟩
theorem OkR.once {d : Dbt} {out : List ByteArray} {s : ByteArray} (h : OkR d out) (hs : s ∈ uC d.cs) : OkR d (onceL out s) := ⟨onceL_nodup h.nd, fun x hx => (onceL_mem.1 hx).elim (h.sub x) fun e => e ▸ hs⟩
def reachG (d : Dbt) : Nat → Nat → List ByteArray → List ByteArray
 | 0, _, out => out
 | n + 1, i, out => match out[i]? with
   | none => out
   | some q => reachG d n (i + 1) (addAll out (callsOf d q))
def reachedFrom (d : Dbt) (p : ByteArray) : List ByteArray := reachG d (wC d.cs) 0 (callsOf d p)
theorem reachG_end {d : Dbt} {n i : Nat} {out : List ByteArray} (h : ¬ i < out.length) : reachG d n i out = out := by
 cases n with
 | zero => rfl
 | succ n => rw [reachG, List.getElem?_eq_none (by omega)]
theorem reachG_step {d : Dbt} {i : Nat} {out : List ByteArray} {q : ByteArray} (hk : OkR d out) (h : out[i]? = some q) : reachG d (wC d.cs - i) i out = reachG d (wC d.cs - (i + 1)) (i + 1) (addAll out (callsOf d q)) := by
 have h1 := hk.len
 have h2 := lt_of_get h
 rw [show wC d.cs - i = (wC d.cs - (i + 1)) + 1 by omega, reachG, h]
theorem reachG_ok {d : Dbt} : ∀ (n i : Nat) (out : List ByteArray), OkR d out → OkR d (reachG d n i out)
 | 0, i, out, h => h
 | n + 1, i, out, h => by
   rw [reachG]
   split
   ·exact h
   ·exact reachG_ok n _ _ ⟨addAll_nodup h.nd, fun x hx => (addAll_mem.1 hx).elim (h.sub x) fun hx => callsOf_sub hx⟩
theorem reachedFrom_ok (d : Dbt) (p : ByteArray) : OkR d (reachedFrom d p) := reachG_ok _ _ _ (OkR.start d p)
theorem reachedFrom_len (d : Dbt) (p : ByteArray) : ((reachedFrom d p).length : Int) ≤ d.cs.length + bulkCs d.cs := by
 have h1 := (reachedFrom_ok d p).len
 have h2 := wC_bulk d.cs
 omega
end Go.Eng
set_option linter.unusedVariables false
set_option linter.unusedSimpArgs false
namespace Go.Eng
def idxF {α : Type} (g : α → Bool) : List α → Nat → Int
 | [], _ => -1
 | x :: r, j => if g x then j else idxF g r (j + 1)
theorem idxF_any {α : Type} (g : α → Bool) (xs : List α) : ∀ j : Nat, decide (0 ≤ idxF g xs j) = xs.any g := by
 induction xs with
 | nil => intro j; rfl
 | cons x r ih =>
   intro j
   simp only [idxF, List.any_cons]
   by_cases h : g x = true
   ·simp [h]
   ·simp [h, ih]
def knownB (d : Dbt) (p : ByteArray) : Bool := hasS d.op p || d.cs.any fun c => decide (predS c.h = p)
theorem clsOf_any (cs : List Cl) (p : ByteArray) : decide (((clsOf cs p).length : Int) > 0) = cs.any fun c => decide (predS c.h = p) := by
 rw [Bool.eq_iff_iff, decide_eq_true_eq]
 induction cs with
 | nil => simp [clsOf]
 | cons c r ih =>
   simp only [clsOf, List.any_cons]
   by_cases h : predS c.h = p
   ·rw [if_pos h]
    simp only [h, decide_true, Bool.true_or, List.length_cons, iff_true]
    omega
   ·rw [if_neg h, ih]
    simp [h]
def addMiss (d : Dbt) (out : List ByteArray) : List ByteArray → List ByteArray
 | [] => out
 | x :: r => addMiss d (if knownB d x then out else onceL out x) r
def missP (d : Dbt) : List ByteArray → List ByteArray → List ByteArray
 | [], out => out
 | p :: r, out => missP d r (addMiss d out (callsOf d p))
def missIn (d : Dbt) : List ByteArray := missP d (predsF d.cs []) []
end Go.Eng
set_option linter.unusedVariables false
namespace Go.Eng
end Go.Eng
set_option linter.unusedVariables false
set_option linter.unusedSimpArgs false
namespace Go.Eng
structure LBh (C : Cx) (e : TypeId) (xs : List D) (A : Value) (o : Option (Nat × Nat)) : Prop where
 lb : LB (fun _ => False) C.w0 e .one xs A o
 dm : ∀ b c, o = some (b, c) → ¬ C.Dm b
 s0 : ∀ b c, o = some (b, c) → ¬ C.S0 b
theorem LB.lt {S : Nat → Prop} {w : World} {e : TypeId} {l : Lay} {xs : List D} {A : Value} {o : Option (Nat × Nat)} (h : LB S w e l xs A o) {b c : Nat} (ho : o = some (b, c)) : b < w.heap.size :=
 h.bx.lt (show β1 o 0 = some (some (b, c)) by simp [ho])
theorem LB.move {S' : Nat → Prop} {w w' : World} {e : TypeId} {l : Lay} {xs : List D} {A : Value} {o : Option (Nat × Nat)} (h : LB (fun _ => False) w e l xs A o) (hb : ∀ b c, o = some (b, c) → w'.heap[b]? = w.heap[b]?) (hn : ∀ b c, o = some (b, c) → ¬ S' b) : LB S' w' e l xs A o :=
 ⟨BoxR_later (β := β1 o) (S := fun _ => False) (w := w) ⟨fun _ _ h => h, fun _ h => h.elim, fun _ h => h.elim⟩ (fun b c hbc => hb b c (by simpa using hbc)) h.bx,
  VC_later (β := β1 o) (S := fun _ => False) (w := w) ⟨fun _ _ h => h, fun _ h => h.elim, fun _ h => h.elim⟩ _ _ h.vc, hn⟩
theorem LB.drop {S S' : Nat → Prop} {w : World} {e : TypeId} {l : Lay} {ss : List ByteArray} {A : Value} {o : Option (Nat × Nat)} (h : LB S w e l (strs ss) A o) : LB (fun _ => False) w e l (strs ss) A o := by
 refine ⟨?_, ?_, fun _ _ _ h => h⟩
 ·obtain ⟨h0, h⟩ := h.bx
  refine ⟨h0, ?_⟩
  rcases h with h | ⟨b, C, cur, ds, h1, h2, h3, h4, h5, h6⟩
  ·exact .inl h
  ·refine .inr ⟨b, C, cur, ds, h1, h2, h3, h4, ?_, h6⟩
   have key : ∀ (xs : List ByteArray) (fs : List Lay) (cs : List Value), VCs (β1 o) S w fs ((strs xs).map V.d) cs → VCs (β1 o) (fun _ => False) w fs ((strs xs).map V.d) cs := by
    intro xs
    induction xs with
    | nil => intro fs cs h; simpa only [strs, List.map_nil, VCs] using h
    | cons x xs ih =>
      intro fs cs h
      simp only [strs, List.map_cons, VCs, VC, DC] at h ⊢
      obtain ⟨f, fr, c1, c2, e1, e2, e3, e4, e5⟩ := h
      exact ⟨f, fr, c1, c2, e1, e2, e3, e4, ih fr c2 (by simpa only [strs] using e5)⟩
   exact key ss _ _ h5
 ·have := h.vc
  simp only [VC] at this ⊢
  exact this
theorem LB.scalar {S : Nat → Prop} {w : World} {e : TypeId} {l : Lay} {xs : List D} {A : Value} {o : Option (Nat × Nat)} (h : LB S w e l xs A o) : Value.scalar A = true := by
 have := h.vc
 simp only [VC] at this
 rcases this with ⟨_, h, _⟩ | ⟨_, _, _, h, _⟩ <;> (injection h with h; rw [h]; rfl)
theorem LBh.marked {C C' : Cx} {e : TypeId} {xs : List D} {A : Value} {o : Option (Nat × Nat)} {K : List Nat} (h : LBh C e xs A o) (k : Mk C K C') (hn : ∀ b c, o = some (b, c) → b ∉ K) : LBh C' e xs A o := by
 refine ⟨h.lb.move (fun b c ho => k.pres.block b (h.lb.lt ho) fun hd => hd.elim (h.dm b c ho) (hn b c ho)) fun _ _ _ h => h, fun b c ho hd => ?_, fun b c ho hs => ?_⟩
 ·rcases k.dm b hd with h1 | h1
  ·exact h.dm b c ho h1
  ·have := h.lb.lt ho; omega
 ·have := h.lb.lt ho
  rcases k.fz b hs with h1 | h1 | h1
  ·exact h.s0 b c ho h1
  ·omega
  ·exact h.dm b c ho h1
section
variable {P : Program} {C : Cx} {n : Nat} {f : Fr} {L : Hp} {Q : AQ} {ops : Array Oper} {rest : List Oper} {dst : Option Tmp} {ty : TypeId} {pos : String} {after : Array Edge} {A : Type}
theorem AL_lcall (hT : CT P C) {x : Operand} {args : Array Operand} {ts : Array TypeId} {k : FuncId} {pre suf : List D} {e : TypeId} {xs ys : List ByteArray} {A : Value} {o : Option (Nat × Nat)} (p1 : List Operand) {p2 : List Operand} {y : Operand}
 (hx : ev f x = .d (.fn k [])) (hc : Callable P k) (hargs : args.toList = p1 ++ y :: p2) (h1 : p1.map (ev f) = pre.map V.d) (hy : ev f y = .d (.c A)) (h2 : p2.map (ev f) = suf.map V.d) (hp : BCall P k pre e .one (strs xs) suf (strs ys)) (hl : LBh C e (strs xs) A o) (hd : dstOk n dst = true)
 (h : ∀ C' A' o', Mk C (blkO o) C' → LBh C' e (strs ys) A' o' → (∀ b c, o' = some (b, c) → (∃ c0, o = some (b, c0)) ∨ C.w0.heap.size ≤ b) → CT P C' → AL P C' n ops rest Q (updo f dst (.d (.c A'))) L) : AL P C n ops (⟨dst, callV x args ts, ty, pos, after, none⟩ :: rest) Q f L := by
 intro a w β S hr
 refine wpList_plain rfl fun Kc hK => ?_
 have hsz := hr.pres.size
 have hv := rel_ev hr x
 rw [hx] at hv
 obtain ⟨cv, c1, c2⟩ := VR_fn hv
 have hcv : cv = [] := by
  have := (DCs_len _ _ _ c2).1
  simpa [Lay.lens] using this
 subst hcv
 have hyv := eval_c hr hy
 have hlt := fun b c ho => hl.lb.lt (b := b) (c := c) ho
 have notS : ∀ b c, o = some (b, c) → ¬ S b := fun b c ho hs => by
  rcases hr.fz b hs with h3 | h3 | h3
  ·exact hl.s0 b c ho h3
  ·have := hlt b c ho; omega
  ·exact hl.dm b c ho h3
 have notB : ∀ b c, o = some (b, c) → ∀ i bx c, L[i]? = some (some bx) → β i ≠ some (some (b, c)) := fun b c ho i bx c' hL hβ => by
  rcases hr.own i bx b c' hL hβ with h3 | h3
  ·exact hl.dm b c ho h3
  ·have := hlt b c ho; omega
 have hlb : LB S w e .one (strs xs) A o := hl.lb.move (fun b c ho => hr.pres.block b (hlt b c ho) (hl.dm b c ho)) notS
 unfold Oper.wp
 rw [call_run hc c1, Oper.upon_enter]
 have heq : (args.map a.eval ++ ([] : List Value).toArray) = (p1.map a.eval ++ A :: p2.map a.eval).toArray := by
  have : (args.map a.eval).toList = p1.map a.eval ++ A :: p2.map a.eval := by rw [Array.toList_map, hargs]; simp [hyv]
  rw [← this]
  exact Array.append_empty.trans (Array.toArray_toList).symm
 rw [heq]
 refine (hp w S _ _ _ o hr.hp.fz (hT.tab hr) (args_RD hr p1 pre h1) (args_RD hr p2 suf h2) hlb).mono ?_
 rintro en w' ⟨z, S', o', rfl, q1, q2, q3, q4, q5⟩
 have lat : Later β S w β S w' := ⟨fun _ _ h => h, fun _ h => h, fun b hb => q5.block b (hr.hp.fz b hb) fun ⟨c, h⟩ => notS b c h hb⟩
 have hr2 : Rel ⟨w', boxBlk L β, S⟩ n f L a w' β S := by
  refine ⟨hr.df, hr.sz, fun i => VR_later lat (hr.fr i), ⟨fun i bx hi => BoxR_later lat (fun b c hb => q5.block b ((hr.hp.bx i bx hi).lt hb) fun ⟨c', h⟩ => notB b c' h i bx c hi hb) (hr.hp.bx i bx hi), hr.hp.inj, hr.hp.own, fun b hb => by have := hr.hp.fz b hb; have := q5.size; omega, hr.hp.un, hr.hp.ad⟩, fun i bx b c hL hb => .inl ⟨i, bx, c, hL, hb⟩, fun b hb => .inl hb, fun b hb => hb, Pres.refl _ _⟩
 have hin : ∀ b, (∃ c, o = some (b, c)) → b ∈ blkO o := fun b ⟨c, h⟩ => by subst h; simp [blkO]
 have hmk : Mk C (blkO o) ⟨w', boxBlk L β, S⟩ := by
  refine ⟨⟨q5.os.trans hr.pres.os, q5.tape.trans hr.pres.tape, q5.output.trans hr.pres.output, Nat.le_trans hsz q5.size, fun b hb hd => ?_⟩, fun b ⟨i, bx, c, hL, hb⟩ => hr.own i bx b c hL hb, hr.s0, hr.fz⟩
  exact (q5.block b (by omega) fun h => hd (.inr (hin b h))).trans (hr.pres.block b hb fun h => hd (.inl h))
 have hl' : LBh ⟨w', boxBlk L β, S⟩ e (strs ys) z o' := by
  refine ⟨q1.drop (S' := S'), fun b c ho ⟨i, bx, c', hL, hβ⟩ => ?_, fun b c ho hs => q1.own b c ho (q3 b hs)⟩
  rcases q2 b c ho with ⟨c0, h3⟩ | h3
  ·exact notB b c0 h3 i bx c' hL hβ
  ·have := (hr.hp.bx i bx hL).lt hβ; omega
 refine hK _ _ (h _ z o' hmk hl' (fun b c ho => (q2 b c ho).imp id fun h => by omega) (hT.marked hmk fun b hb hs => ?_) _ _ _ _ (hr2.puto (dstOk_spec hd) (VR_c.2 ⟨rfl, q1.scalar⟩)))
 cases o with
 | none => cases hb
 | some q =>
   obtain ⟨b', c'⟩ := q
   simp only [blkO, List.mem_singleton] at hb
   subst hb
   exact hl.s0 _ c' rfl hs
theorem AL_ncall (hT : CT P C) {x : Operand} {args : Array Operand} {ts : Array TypeId} {k kk : FuncId} {pre : List D} {t0 e : TypeId} {ys : List ByteArray} (i : Nat) (p1 : List Operand) {y : Operand}
 (hx : ev f x = .d (.fn k [])) (hc : Callable P k) (hargs : args.toList = p1 ++ [y]) (h1 : p1.map (ev f) = pre.map V.d) (hy : ev f y = .fn kk [.ptr .one i 0 []]) (hL : L[i]? = some (some ⟨t0, .one, [nilsl]⟩))
 (hp : ∀ b0 c0, FCall P k (Jl t0 e b0 c0) (pre ++ [.c (.func (.func kk) #[] #[.pointer (some ⟨b0, 0, none⟩)])]) [] ys) (q : Nat) (hq : L.length = q) (hd : dstOk n dst = true)
 (h : AL P C n ops rest Q (updo f dst .any) (L.set i (some ⟨t0, .one, [.ref .one (q + 1) 0 ys.length]⟩) ++ [none, some ⟨e, .one, (strs ys).map V.d⟩])) : AL P C n ops (⟨dst, callV x args ts, ty, pos, after, none⟩ :: rest) Q f L := by
 subst hq
 intro a w β S hr0
 refine wpList_plain rfl fun Kc hK => ?_
 have hi : i < L.length := lt_of_get hL
 have hr := hr0.virt e .one
 generalize hβ' : setβ β L.length none = β' at hr
 have hβj : β' L.length = some none := by rw [← hβ', setβ_self]
 have hLi : (L ++ [some (⟨e, .one, []⟩ : Box)])[i]? = some (some ⟨t0, .one, [nilsl]⟩) := by rw [List.getElem?_append_left hi]; exact hL
 have hLj : (L ++ [some (⟨e, .one, []⟩ : Box)])[L.length]? = some (some ⟨e, .one, []⟩) := by simp
 have hv := rel_ev hr x
 rw [hx] at hv
 obtain ⟨cv, c1, c2⟩ := VR_fn hv
 have hcv : cv = [] := by
  have := (DCs_len _ _ _ c2).1
  simpa [Lay.lens] using this
 subst hcv
 -- the closure
 have hyv := rel_ev hr y
 rw [hy] at hyv
 obtain ⟨b0, c0, hb0, hye⟩ : ∃ b0 c0, β' i = some (some (b0, c0)) ∧ a.eval y = .func (.func kk) #[] #[.pointer (some ⟨b0, 0, none⟩)] := by
  rcases hyv with h | ⟨h, e1⟩
  ·cases h
  ·have hag : isAggV (a.eval y) = false := by simpa [V.isAgg] using e1.symm
   have hcell : (a.eval y).cells = #[a.eval y] := by
    generalize a.eval y = v at hag
    cases v <;> first | rfl | simp [isAggV] at hag
   rw [hcell] at h
   simp only [VC, List.length_cons, List.length_nil, List.replicate_succ, List.replicate_zero, VCs] at h
   obtain ⟨xs, hx1, f1, fr, d1, d2, hfs, rfl, hl1, ⟨b, Cp, o1, l', g1, g2, g3⟩, hfr, rfl⟩ := h
   simp only [Lay.at?, Option.some.injEq, Prod.mk.injEq] at g2
   obtain ⟨rfl, _⟩ := g2
   subst g3
   refine ⟨b, Cp, g1, ?_⟩
   simpa using hx1
 -- the box
 have hbx := hr.hp.bx i _ hLi
 obtain ⟨cur, hcur1, hcur2, hcur3, hcur4⟩ : ∃ cur : Array Value, w.heap[b0]? = some (.cells cur t0 (0, 0)) ∧ cur.size = c0 ∧ (1 ≤ c0 ∧ c0 ≤ maxLen) ∧ cur[0]? = some (.slice none 0 0) := by
  obtain ⟨_, hbx⟩ := hbx
  rcases hbx with ⟨h1, h2⟩ | ⟨b, Cp, cur, ds, g1, g2, g3, g4, g5, g6⟩
  ·simp at h2
  ·rw [hb0] at g1
   injection g1 with g1; injection g1 with g1; injection g1 with g1 g1'
   subst g1; subst g1'
   simp only [List.length_cons, List.length_nil, List.replicate_succ, List.replicate_zero, VCs, VC, DC] at g5
   obtain ⟨f1, fr, d1, d2, hfs, rfl, hl1, ⟨hd1, _⟩, hfr, rfl⟩ := g5
   subst hd1
   exact ⟨cur, g2, by simpa [Lay.len] using g3, by simpa using g4, g6 0 _ (by simp)⟩
 have hnS : ¬ S b0 := fun hs => hr.hp.own i _ b0 c0 hLi hb0 hs
 have hJ : (Jl t0 e b0 c0).J [] [b0] w := by
  refine ⟨none, .slice none 0 0, cur, hcur1, hcur2, hcur3.1, hcur3.2, hcur4, ⟨⟨by simp [strs], .inl ⟨by simp, rfl⟩⟩, ?_, fun _ _ h => (by cases h)⟩, fun c h => (by cases h), rfl⟩
  simp only [VC]
  exact .inl ⟨by simp, trivial, trivial, rfl⟩
 unfold Oper.wp
 rw [call_run hc c1, Oper.upon_enter]
 have heq : (args.map a.eval ++ ([] : List Value).toArray) = (p1.map a.eval ++ [Value.func (.func kk) #[] #[.pointer (some ⟨b0, 0, none⟩)]]).toArray := by
  have : (args.map a.eval).toList = p1.map a.eval ++ [Value.func (.func kk) #[] #[.pointer (some ⟨b0, 0, none⟩)]] := by rw [Array.toList_map, hargs]; simp [hye]
  rw [← this]
  exact Array.append_empty.trans (Array.toArray_toList).symm
 rw [heq]
 have hfn : All2 (RD S w) [D.c (.func (.func kk) #[] #[.pointer (some ⟨b0, 0, none⟩)])] [Value.func (.func kk) #[] #[.pointer (some ⟨b0, 0, none⟩)]] := RDs_c [Value.func (.func kk) #[] #[.pointer (some ⟨b0, 0, none⟩)]] rfl
 refine (hp b0 c0 w S _ [b0] hr.hp.fz (hT.tab hr) ((args_RD hr p1 pre h1).append hfn) hJ (by simpa using hnS)).mono ?_
 rintro en w' ⟨z, F', rfl, ⟨o', A', cur', g1, g2, g3, g4, g5, g6, g7, rfl⟩, q2, q3⟩
 have hnew : ∀ b c, o' = some (b, c) → w.heap.size ≤ b := fun b c ho => by
  rcases q2 b (by subst ho; simp [blkO]) with h3 | h3
  ·rw [List.mem_singleton] at h3
   subst h3
   exact absurd ho (g7 c)
  ·exact h3
 have hr2 := hr.ncall (bi' := ⟨t0, .one, [.ref .one (L.length + 1) 0 ys.length]⟩) (bj' := ⟨e, .one, (strs ys).map V.d⟩) (o' := o') (S' := S) (w' := w') hLi hLj (by omega) hb0 hβj
  ⟨q3.os, q3.tape, q3.output, q3.size, fun b hb hd => q3.block b hb fun h => hd (.inl (by simpa using h))⟩ (fun b c ho => .inr (hnew b c ho)) (fun b c ho hs => by have := hr.hp.fz b hs; have := hnew b c ho; omega) (fun _ h => h)
  (fun b hb => ⟨by have := hr.hp.fz b hb; have := q3.size; omega, .inl hb⟩)
  (fun β2 k1 k2 => by
    refine ⟨by simp [lim], .inr ⟨b0, c0, cur', [A'], k1, g1, by simpa [Lay.len] using g2, ⟨by simpa using g3, g4⟩, ?_, fun j x hj => ?_⟩⟩
    ·simp only [List.length_cons, List.length_nil, List.replicate_succ, List.replicate_zero, VCs]
     refine ⟨.one, [], [A'], [], rfl, rfl, rfl, ?_, rfl, rfl⟩
     have := g6.vc
     rw [strs_length] at this
     exact VC_name this ((show β2 (L.length + 1) = some o' by simpa using k2).trans (by simp))
    ·cases j with
     | zero => simp at hj; subst hj; exact g5
     | succ j => simp at hj)
  (fun β2 k2 => BoxR_name (BoxR_later (β := β1 o') (S := fun _ => False) (w := w') ⟨fun _ _ h => h, fun _ h => h.elim, fun _ h => h.elim⟩ (fun _ _ _ => rfl) g6.bx) (k2.trans (by simp)))
 have hlist : ((L ++ [some (⟨e, .one, []⟩ : Box)]).set i (some ⟨t0, .one, [.ref .one (L.length + 1) 0 ys.length]⟩)).set L.length none ++ [some (⟨e, .one, (strs ys).map V.d⟩ : Box)] = L.set i (some ⟨t0, .one, [.ref .one (L.length + 1) 0 ys.length]⟩) ++ [none, some ⟨e, .one, (strs ys).map V.d⟩] := by
  rw [List.set_append_left _ _ hi, List.set_append_right _ _ (by simp)]
  simp
 rw [hlist] at hr2
 exact hK _ _ (h _ _ _ _ (hr2.puto (dstOk_spec hd) (VR_any ..)))
end
theorem jstep {C0 C C' : Cx} {F F1 F2 : List Nat} (hM : Mk C0 F C) (hS : ∀ b ∈ F1, b ∈ F ∨ C0.w0.heap.size ≤ b) (hm : Mk C F1 C') (hs : ∀ b ∈ F2, b ∈ F1 ∨ C.w0.heap.size ≤ b) : Mk C0 F C' ∧ ∀ b ∈ F2, b ∈ F ∨ C0.w0.heap.size ≤ b := by
 have := hM.pres.size
 refine ⟨hM.trans hm fun b hb hlt => (hS b hb).elim id fun h => by omega, fun b hb => ?_⟩
 rcases hs b hb with h | h
 ·exact hS b h
 ·exact .inr (by omega)
theorem jend2 {P : Program} {A : Type} {C : Cx} {n : Nat} {f : Fr} {L : Hp} {C0 : Cx} {fn : Func} {J : Jx A} {F F' : List Nat} {a1 a2 : A} {ex : Exit} (he : ends ex = true) (hx : Mk C0 F C) (hdm : ∀ b, ¬ C0.Dm b) (hres : fn.results.toList = []) (hJ : Jh J C a2 F') (hs : ∀ b ∈ F', b ∈ F ∨ C0.w0.heap.size ≤ b) (e : a1 = a2) : Fin C n (retJQ fn P C0.w0 J F a1 ex) f L := by
 subst e; exact jend he hx hdm hres hJ hs
theorem blkO_mem {o : Option (Nat × Nat)} {b : Nat} : b ∈ blkO o ↔ ∃ c, o = some (b, c) := by
 cases o with
 | none => simp [blkO]
 | some q => obtain ⟨b', c'⟩ := q; simp [blkO, eq_comm]
theorem Jl_close {E : Cx} {t0 e : TypeId} {b0 c0 : Nat} {ys : List ByteArray} {o1 : Option (Nat × Nat)} {A1 : Value} {l : List Value} (hb : Blk E b0 (l.set 0 A1) t0) (hl : l.length = c0) (h1 : 1 ≤ c0) (h2 : c0 ≤ maxLen) (hL : LBh E e (strs ys) A1 o1) (hne : ∀ c, o1 ≠ some (b0, c)) : Jh (Jl t0 e b0 c0) E ys (b0 :: blkO o1) := by
 refine ⟨⟨o1, A1, (l.set 0 A1).toArray, hb.hp, by simpa using hl, h1, h2, ?_, hL.lb, hne, rfl⟩, fun b h => ?_, fun b h => ?_⟩
 ·rw [List.getElem?_toArray, List.getElem?_set_self (by omega)]
 ·rcases List.mem_cons.1 h with rfl | h
  ·exact hb.dm
  ·obtain ⟨c, h⟩ := blkO_mem.1 h; exact hL.dm b c h
 ·rcases List.mem_cons.1 h with rfl | h
  ·exact hb.s0
  ·obtain ⟨c, h⟩ := blkO_mem.1 h; exact hL.s0 b c h
theorem Jl_step {C0 C1 E : Cx} {t0 e : TypeId} {b0 c0 : Nat} {ys : List ByteArray} {o o1 : Option (Nat × Nat)} {A1 : Value} {l : List Value} (hlt : b0 < C0.w0.heap.size) (hne : ∀ c, o ≠ some (b0, c)) (hm1 : Mk C0 (blkO o) C1) (hL1 : LBh C1 e (strs ys) A1 o1) (hs1 : ∀ b c, o1 = some (b, c) → (∃ c0, o = some (b, c0)) ∨ C0.w0.heap.size ≤ b)
 (hk : Mk C1 [b0] E) (hb : Blk E b0 (l.set 0 A1) t0) (hl : l.length = c0) (h1 : 1 ≤ c0) (h2 : c0 ≤ maxLen) :
 Mk C0 (b0 :: blkO o) E ∧ Jh (Jl t0 e b0 c0) E ys (b0 :: blkO o1) ∧ ∀ b ∈ b0 :: blkO o1, b ∈ b0 :: blkO o ∨ C0.w0.heap.size ≤ b := by
 have hne1 : ∀ c, o1 ≠ some (b0, c) := fun c ho => by
  rcases hs1 b0 c ho with ⟨c0, h⟩ | h
  ·exact hne c0 h
  ·omega
 have hL2 := hL1.marked hk (fun b c ho => by rw [List.mem_singleton]; rintro rfl; exact hne1 c ho)
 refine ⟨(hm1.mono fun b hb => by simp [hb]).trans hk fun b hb _ => by simp at hb; simp [hb], Jl_close hb hl h1 h2 hL2 hne1, fun b hb => ?_⟩
 rcases List.mem_cons.1 hb with rfl | hb
 ·exact .inl (by simp)
 ·obtain ⟨c, ho⟩ := blkO_mem.1 hb
  rcases hs1 b c ho with h | h
  ·exact .inl (List.mem_cons_of_mem _ (blkO_mem.2 h))
  ·exact .inr h
end Go.Eng
set_option linter.unusedVariables false
set_option linter.unusedSimpArgs false
namespace Go.Eng
def NCall (P : Program) (k : FuncId) (ds : List D) (e : TypeId) (ys : List ByteArray) : Prop :=
 ∀ (w : World) (S : Nat → Prop) (vs : List Value), (∀ b, S b → b < w.heap.size) → Tab P S w → All2 (RD S w) ds vs →
  Calls P k vs.toArray w fun en w' => ∃ y o', en = .returned y ∧ LB (fun _ => False) w' e .one (strs ys) y o' ∧ (∀ b c, o' = some (b, c) → w.heap.size ≤ b) ∧ Pres (fun _ => False) w w'
theorem VCs_strs {β : Beta} {S : Nat → Prop} {w : World} : ∀ (ys : List ByteArray) (cs : List Value), VCs β S w (List.replicate ys.length .one) ((strs ys).map V.d) cs → cs = ys.map vs
 | [], cs, h => by simp only [strs, List.map_nil, VCs] at h; simpa using h.2
 | y :: ys, cs, h => by
   simp only [strs, List.map_cons, List.length_cons, List.replicate_succ, VCs, VC, DC] at h
   obtain ⟨f, fr, c1, c2, e1, rfl, e3, e4, e5⟩ := h
   injection e1 with e1 e1'
   subst e1; subst e1'
   have := VCs_strs ys c2 (by simpa only [strs] using e5)
   rw [this, e4.1]
   rfl
theorem LB.tr {S : Nat → Prop} {w : World} {e : TypeId} {ys : List ByteArray} {y : Value} {o : Option (Nat × Nat)} (h : LB S w e .one (strs ys) y o) : Tr w (.sl .one (strs ys)) [y] (blkO o) := by
 have hv := h.vc
 obtain ⟨h0, hb⟩ := h.bx
 simp only [VC, strs_length, β1, ite_true, Option.some.injEq] at hv
 simp only [Tr, strs_length]
 rcases hb with ⟨h1, h2⟩ | ⟨b, Cp, cur, ds, h1, h2, h3, h4, h5, h6⟩
 ·have ho : o = none := by simpa [β1] using h1
  have hy : ys = [] := by simpa [strs] using h2
  subst ho; subst hy
  rcases hv with ⟨_, g, _⟩ | ⟨b, C, g, _⟩
  ·exact .inl ⟨by simpa using g, rfl, rfl⟩
  ·cases g
 ·have ho : o = some (b, Cp) := by simpa [β1] using h1
  subst ho
  rcases hv with ⟨g, _⟩ | ⟨b', C', g, g1, g2⟩
  ·cases g
  ·injection g with g; injection g with g g'
   subst g; subst g'
   simp only [List.length_map, strs_length] at h4 h5 h0
   have hd := VCs_strs ys ds h5
   refine .inr ⟨b, Cp, cur, e, ds, [], rfl, by simp, by simpa using g1, h2, by simpa using h3, h4.1, h4.2, h0, ?_, h6⟩
   rw [hd]; exact strs_Trs ys
theorem NCall.ocall {P : Program} {k : FuncId} {ds : List D} {e : TypeId} {ys : List ByteArray} (h : NCall P k ds e ys) : OCall P k ds (.sl .one (strs ys)) := fun w S xs hS hT hd =>
 (h w S xs hS hT hd).mono fun en w' ⟨y, o', h1, h2, h3, h4⟩ => by
   have hsc := h2.scalar
   refine ⟨y, blkO o', h1, ?_, (isAgg_scalar hsc).symm, fun b hb => ?_, h4⟩
   ·rw [cells_scalar hsc]; exact h2.tr
   ·obtain ⟨c, hc⟩ := blkO_mem.1 hb; exact h3 b c hc
section
variable {P : Program} {C : Cx} {n : Nat} {f : Fr} {L : Hp} {Q : AQ} {ops : Array Oper} {rest : List Oper} {dst : Option Tmp} {ty : TypeId} {pos : String} {after : Array Edge}
theorem NCall_of {k : FuncId} {fn : Func} {c : Code} {ds : List D} {e : TypeId} {ys : List ByteArray} (hf : P.funcs[k]? = some fn) (hb : fn.body = some c) (hn : fn.ntmps = n) (hlen : ds.length ≤ n)
 (h : ∀ C0, (∀ b, ¬ C0.Dm b) → CT P C0 → AC P C0 n c (retBQ fn P C0.w0 C0.S0 none e .one (strs ys)) (fr0 ds) []) : NCall P k ds e ys := by
 intro w S vs hS hT hd
 refine calls_of_wp hf hb ?_
 subst hn
 refine wp_mono (h ⟨w, fun _ => False, S⟩ (fun _ h => h) (CT.start hT fun _ _ h => h) _ w _ S (fr0_rel hlen hS hd)) ?_
 rintro en a w' ⟨hend, h1, y, h2, S', o', h3, h4, h5, h6, h7⟩
 have fin : a.defers = [] ∧ ∃ v, (results fn a.tmps).run P w' = .ok v w' ∧ ∃ y o', Ending.returned v = .returned y ∧ LB (fun _ => False) w' e .one (strs ys) y o' ∧ (∀ b c, o' = some (b, c) → w.heap.size ≤ b) ∧ Pres (fun _ => False) w w' :=
  ⟨h1, y, h2, y, o', rfl, h3.drop (S' := S'), fun b c ho => (h4 b c ho).elim (fun ⟨_, h⟩ => by cases h) id, ⟨h7.os, h7.tape, h7.output, h7.size, fun b hb hd => h7.block b hb fun ⟨_, h⟩ => by cases h⟩⟩
 cases en with
 | normal => exact fin
 | ret => exact fin
 | _ => cases hend
theorem retn_ok {fn : Func} {e : TypeId} {ys : List ByteArray} {j m : Nat} {bx : Box} (hdm : ∀ b, ¬ C.Dm b) (hrv : RetV P f L fn.results.toList [.ref .one j 0 m]) (hL : L[j]? = some (some bx)) (hbx : bx = ⟨e, .one, (strs ys).map V.d⟩) (hm : ys.length = m) : Fin C n (retBQ fn P C.w0 C.S0 none e .one (strs ys) .ret) f L :=
 retb_ok (fun b => ⟨fun h => absurd h (hdm b), fun ⟨_, h⟩ => by cases h⟩) hrv hL hbx (by simpa using hm)
theorem AL_nlcall (hT : CT P C) {x : Operand} {args : Array Operand} {ts : Array TypeId} {k : FuncId} {ds : List D} {e : TypeId} {ys : List ByteArray}
 (hx : ev f x = .d (.fn k [])) (hc : Callable P k) (hp : NCall P k ds e ys) (ha : args.toList.map (ev f) = ds.map V.d) (q : Nat) (hq : L.length = q) (hd : dstOk n dst = true)
 (h : AL P C n ops rest Q (updo f dst (.ref .one (q + 1) 0 ys.length)) (L ++ [none, some ⟨e, .one, (strs ys).map V.d⟩])) : AL P C n ops (⟨dst, callV x args ts, ty, pos, after, none⟩ :: rest) Q f L := by
 subst hq
 intro a w β S hr0
 refine wpList_plain rfl fun Kc hK => ?_
 have hr := hr0.virt e .one
 generalize hβ' : setβ β L.length none = β' at hr
 have hβj : β' L.length = some none := by rw [← hβ', setβ_self]
 have hLj : (L ++ [some (⟨e, .one, []⟩ : Box)])[L.length]? = some (some ⟨e, .one, []⟩) := by simp
 have hv := rel_ev hr x
 rw [hx] at hv
 obtain ⟨cv, c1, c2⟩ := VR_fn hv
 have hcv : cv = [] := by
  have := (DCs_len _ _ _ c2).1
  simpa [Lay.lens] using this
 subst hcv
 unfold Oper.wp
 rw [call_run hc c1, Oper.upon_enter]
 have heq : (args.map a.eval ++ ([] : List Value).toArray) = (args.toList.map a.eval).toArray := by
  show args.map a.eval ++ #[] = _
  rw [Array.append_empty, ← Array.toList_map, Array.toArray_toList]
 rw [heq]
 refine (hp w S _ hr.hp.fz (hT.tab hr) (args_RD hr args.toList ds ha)).mono ?_
 rintro en w' ⟨z, o', rfl, g6, hnew, q3⟩
 have hr2 := hr.bcall (bx' := ⟨e, .one, (strs ys).map V.d⟩) (o := none) (o' := o') (S' := S) (w' := w') hLj hβj
  ⟨q3.os, q3.tape, q3.output, q3.size, fun b hb hd => q3.block b hb fun h => h.elim⟩ (fun b c ho => .inr (hnew b c ho)) (fun b c ho hs => by have := hr.hp.fz b hs; have := hnew b c ho; omega) (fun _ h => h)
  (fun b hb => ⟨by have := hr.hp.fz b hb; have := q3.size; omega, .inl hb⟩)
  (fun β2 k2 => BoxR_name (BoxR_later (β := β1 o') (S := fun _ => False) (w := w') ⟨fun _ _ h => h, fun _ h => h.elim, fun _ h => h.elim⟩ (fun _ _ _ => rfl) g6.bx) (k2.trans (by simp)))
 have hlist : (L ++ [some (⟨e, .one, []⟩ : Box)]).set L.length none ++ [some (⟨e, .one, (strs ys).map V.d⟩ : Box)] = L ++ [none, some ⟨e, .one, (strs ys).map V.d⟩] := by
  rw [List.set_append_right _ _ (by simp)]
  simp
 have hlen1 : (L ++ [some (⟨e, .one, []⟩ : Box)]).length = L.length + 1 := by simp
 rw [hlist, hlen1] at hr2
 refine hK _ _ (h _ _ _ _ (hr2.puto (dstOk_spec hd) (.inr ⟨?_, ?_⟩)))
 ·rw [cells_scalar g6.scalar]
  have := g6.vc
  rw [strs_length] at this
  exact VC_name this (by rw [setβ_self]; simp)
 ·rw [isAgg_scalar g6.scalar]; rfl
end
end Go.Eng
set_option linter.unusedVariables false
set_option linter.unusedSimpArgs false
namespace Go.Eng
theorem hasS_app (a b : List ByteArray) (x : ByteArray) : hasS (a ++ b) x = (hasS a x || hasS b x) := by
 rw [Bool.eq_iff_iff]; simp [hasS_iff]
theorem hasS_addAll (a b : List ByteArray) (x : ByteArray) : hasS (addAll a b) x = (hasS a x || hasS b x) := by
 rw [Bool.eq_iff_iff]; simp [hasS_iff, addAll_mem]
def appR (d : Dbt) : List ByteArray → List ByteArray → List ByteArray
 | [], out => out
 | e :: r, out => appR d r (out ++ reachedFrom d e)
def addR (d : Dbt) : List ByteArray → List ByteArray → List ByteArray
 | [], out => out
 | e :: r, out => addR d r (addAll out (reachedFrom d e))
theorem appR_has (d : Dbt) (es : List ByteArray) (x : ByteArray) : ∀ out, hasS (appR d es out) x = (hasS out x || es.any fun e => hasS (reachedFrom d e) x) := by
 induction es with
 | nil => intro out; simp [appR]
 | cons e r ih => intro out; rw [appR, ih, hasS_app, List.any_cons, Bool.or_assoc]
theorem addR_has (d : Dbt) (es : List ByteArray) (x : ByteArray) : ∀ out, hasS (addR d es out) x = (hasS out x || es.any fun e => hasS (reachedFrom d e) x) := by
 induction es with
 | nil => intro out; simp [addR]
 | cons e r ih => intro out; rw [addR, ih, hasS_addAll, List.any_cons, Bool.or_assoc]
def wR (d : Dbt) : List ByteArray → Nat
 | [] => 0
 | e :: r => (reachedFrom d e).length + wR d r
theorem wR_le (d : Dbt) (B : Nat) (hB : (d.cs.length : Int) + bulkCs d.cs ≤ B) (es : List ByteArray) : wR d es ≤ es.length * B := by
 induction es with
 | nil => simp [wR]
 | cons e r ih =>
   have := reachedFrom_len d e
   simp only [wR, List.length_cons, Nat.succ_mul]
   omega
theorem wR_bd {d : Dbt} {es : List ByteArray} (h : bulkD d + (es.length + bulkSs es) ≤ 1048576) : es.length + wR d es ≤ 1099511627776 := by
 have h1 := bulkCs_nn d.cs
 have h2 := bulkSs_nn d.op
 have h3 := bulkSs_nn es
 unfold bulkD at h
 obtain ⟨B, hB⟩ : ∃ B : Nat, (B : Int) = d.cs.length + bulkCs d.cs := ⟨(d.cs.length + bulkCs d.cs).toNat, by omega⟩
 have hw := wR_le d B (by omega) es
 have hs : es.length + B ≤ 1048576 := by omega
 by_cases hc : B ≤ 524288
 ·have : es.length * B ≤ 1048576 * 524288 := Nat.mul_le_mul (by omega) hc
  omega
 ·have : es.length * B ≤ 524288 * 1048576 := Nat.mul_le_mul (by omega) (by omega)
  omega
def unreached (d : Dbt) (es : List ByteArray) : List ByteArray := (predsF d.cs []).filter fun x => !(hasS es x || es.any fun e => hasS (reachedFrom d e) x)
theorem unreached_app (d : Dbt) (es : List ByteArray) : unreached d es = (predsF d.cs []).filter fun x => !hasS (appR d es es) x := by
 unfold unreached; congr 1; funext x; rw [appR_has]
theorem unreached_add (d : Dbt) (es : List ByteArray) : unreached d es = (predsF d.cs []).filter fun x => !hasS (addR d es es) x := by
 unfold unreached; congr 1; funext x; rw [addR_has]
end Go.Eng
set_option linter.unusedVariables false
set_option linter.unusedSimpArgs false
namespace Go.Eng
section
variable {P : Program} {C : Cx} {n : Nat} {f : Fr} {L : Hp} {Q : AQ} {ops : Array Oper} {rest : List Oper} {dst : Option Tmp} {ty : TypeId} {pos : String} {after : Array Edge}
theorem append_hv {t e : TypeId} {x y : Operand} {l : Lay} {i m bytes : Nat} {bx : Box} {ys : List V} {z : Value} {a : Act} {w : World} {β : Beta} {S : Nat → Prop} (hr : Rel C n f L a w β S) (hv : VR β S w (.ref l i 0 m) (a.eval x)) (hL : L[i]? = some (some bx)) (hl : bx.l = l) (ht : tyElem P t = some e) (hs : tySize P e = some l.len) (hz : tyZero P e = some (some z)) (hzl : z.cells.size = l.len) (hb : tyBytes P e = some bytes) (hb128 : bytes ≤ 128)
 (hpos : 0 < l.len) (he : bx.ty = e) (hm : bx.es.length = m) (src : Src C n f L y l ys) (hlim : m + ys.length ≤ lim) (hd : dstOk n dst = true) (K : Act → World → Prop) (Qc : Exit → Act → World → Prop)
 (hK : ∀ a' w' β' S' f' L', Rel C n f' L' a' w' β' S' → (f' = updo f dst (.ref l L.length 0 (m + ys.length)) ∧ L' = L.set i none ++ [some ⟨e, l, bx.es ++ ys⟩]) → K a' w') : Oper.wp P ⟨dst, callB .append #[x, y] #[t, t], ty, pos, after, none⟩ a w K Qc := by
 obtain ⟨A, c, news, hy1, hy2, hy3⟩ := src a w β S hr
 subst hl; replace he : bx.ty.t = e := congrArg BT.t he
 subst he
 obtain ⟨info, hi, hby⟩ := Option.map_eq_some_iff.1 hb
 obtain ⟨info', hi', hzz⟩ := Option.map_eq_some_iff.1 hz
 rw [hi] at hi'
 injection hi' with hi'
 subst hi'
 have hsz : info.size = bx.l.len := by
  obtain ⟨i2, hi2, h2⟩ := Option.map_eq_some_iff.1 hs
  rw [hi] at hi2
  injection hi2 with hi2
  subst hi2
  exact h2
 have hnl : news.length = ys.length * bx.l.len := by
  have := (VCs_len _ _ _ hy2).1
  rwa [lens_replicate] at this
 have hlim' : m + ys.length ≤ 1099511627776 := hlim
 -- what both arms hand on
 have app : ∀ (β' : Beta) (w' : World) (ds : List Value), Later β S w β' S w' → VCs β S w (List.replicate bx.es.length bx.l) bx.es ds → VCs β' S w' (List.replicate (bx.es ++ ys).length bx.l) (bx.es ++ ys) (ds ++ news) := by
  intro β' w' ds lat hds
  have key : ∀ (es : List V) (ds : List Value), VCs β S w (List.replicate es.length bx.l) es ds → VCs β S w (List.replicate (es ++ ys).length bx.l) (es ++ ys) (ds ++ news) := by
   intro es
   induction es with
   | nil => intro ds hds; simp only [List.length_nil, List.replicate_zero, VCs] at hds; obtain ⟨_, rfl⟩ := hds; simpa using hy2
   | cons v es ih =>
     intro ds hds
     simp only [List.length_cons, List.replicate_succ, VCs] at hds
     obtain ⟨f0, fr, c1, c2, e0, rfl, h3, h4, h5⟩ := hds
     injection e0 with e1 e2
     subst e1; subst e2
     simp only [List.cons_append, List.length_cons, List.replicate_succ, VCs]
     exact ⟨_, _, c1, c2 ++ news, rfl, by simp, h3, h4, ih c2 h5⟩
  exact VCs_later lat _ _ _ (key _ _ hds)
 by_cases h0 : ys.length = 0
 ·-- nothing is appended
  have hys : ys = [] := List.eq_nil_of_length_eq_zero h0
  subst hys
  have hxv : ∃ bo cap, a.eval x = .slice bo m cap ∧ m ≤ cap := by
   rcases VR_ref hv with ⟨_, k2, _, k3⟩ | ⟨b, Cp, _, k2, hle⟩
   ·exact ⟨none, 0, by rw [k2, k3], by omega⟩
   ·exact ⟨_, _, k2, by omega⟩
  obtain ⟨bo, cap, hxv, hcap⟩ := hxv
  have hrun : (Builtin.append_ #[t, t] ty #[a.eval x, a.eval y]).run P w = .ok (a.eval x) w := by
   have hfc : (Builtin.firstCells info.size 0 (.slice A 0 c)).run P w = .ok #[] w := by
    cases A <;> simp [Builtin.firstCells, loadCells, loadCellsFrom]
   rw [hxv, hy1]
   cases bo <;> simp [Builtin.append_, run_underlying (elem_some ht), sizeOf, typeInfo, hi, Builtin.lenOf, hcap, hfc, storeCells, Result.andThen]
  unfold Oper.wp
  rw [append_arg_run hrun, Oper.upon_value]
  obtain ⟨hli, hbr⟩ := hr.hp.bx i bx hL
  have hgr : w.grownBy w none := ⟨rfl, rfl, rfl, Nat.le_refl _, fun _ _ _ => rfl⟩
  simp only [List.append_nil, List.length_nil, Nat.add_zero] at hK ⊢
  rcases VR_ref hv with ⟨k1, k2, _, k3⟩ | ⟨b, Cp, k1, k2, k3⟩
  ·have hr' := hr.move (hna := rfl) (bx' := ⟨bx.ty.t, bx.l, bx.es⟩) (r := none) (o := none) hL hgr (fun b hb => by cases hb) (fun b c hb => by cases hb) (fun β' lat hβ => by
    rcases hbr with ⟨q1, q2⟩ | ⟨b', C', cur, ds, q1, _⟩
    ·exact ⟨hli, .inl ⟨hβ, q2⟩⟩
    ·rw [k1] at q1; cases q1)
   exact hK _ _ _ _ _ _ (hr'.puto (dstOk_spec hd) (VR_ref_mk (.inl ⟨setβ_self _ _ _, k2, rfl, k3⟩))) ⟨rfl, rfl⟩
  ·have hr' := hr.move (hna := rfl) (bx' := ⟨bx.ty.t, bx.l, bx.es⟩) (r := none) (o := some (b, Cp)) hL hgr (fun b hb => by cases hb) (fun b' c hb => by injection hb with hb; injection hb with hb hb'; subst hb; exact .inl ⟨Cp, k1⟩) (fun β' lat hβ => by
    rcases hbr with ⟨q1, q2⟩ | ⟨b', C', cur, ds, q1, q2, q3, q4, q5, q6⟩
    ·rw [k1] at q1; cases q1
    ·rw [k1] at q1
     injection q1 with q1; injection q1 with q1; injection q1 with q1 q1'
     subst q1; subst q1'
     exact ⟨hli, .inr ⟨b, Cp, cur, ds, hβ, q2, q3, q4, VCs_later lat _ _ _ q5, q6⟩⟩)
   exact hK _ _ _ _ _ _ (hr'.puto (dstOk_spec hd) (VR_ref_mk (.inr ⟨b, Cp, setβ_self _ _ _, k2, k3⟩))) ⟨rfl, rfl⟩
 ·rcases hy3 with hy3 | ⟨b2, o2, rfl, hcells⟩
  ·exact absurd hy3 h0
  ·obtain ⟨hli, hbr⟩ := hr.hp.bx i bx hL
   -- the slice as the machine's law wants it
   have hown : ∃ ds, VCs β S w (List.replicate bx.es.length bx.l) bx.es ds ∧ w.ownsRow 0 bx.ty.t bx.l.len (a.eval x) m ds ∧ ∀ b, (a.eval x).ownBlock = some b → ∃ c, β i = some (some (b, c)) := by
    rcases VR_ref hv with ⟨k1, k2, _, k3⟩ | ⟨b, Cp, k1, k2, k3⟩
    ·rcases hbr with ⟨q1, q2⟩ | ⟨b', C', cur, ds, q1, _⟩
     ·refine ⟨[], by rw [q2]; simp [VCs], ⟨by simp [k3], .inl ⟨k2, k3⟩⟩, fun b hb => by rw [k2] at hb; cases hb⟩
     ·rw [k1] at q1; cases q1
    ·rcases hbr with ⟨q1, q2⟩ | ⟨b', C', cur, ds, q1, q2, q3, q4, q5, q6⟩
     ·rw [k1] at q1; cases q1
     ·rw [k1] at q1
      injection q1 with q1; injection q1 with q1; injection q1 with q1 q1'
      subst q1; subst q1'
      have hdl := (VCs_len _ _ _ q5).1
      rw [lens_replicate, hm] at hdl
      refine ⟨ds, q5, ⟨hdl, .inr ⟨b, Cp, cur, by rw [k2]; simp, Nat.zero_le _, q2, by omega, q4.2, q3, ?_⟩⟩, fun b' hb' => by rw [k2] at hb'; simp [Value.ownBlock] at hb'; subst hb'; exact ⟨Cp, k1⟩⟩
      apply List.ext_getElem?
      intro j
      by_cases hj : j < ds.length
      ·rw [List.getElem?_take_of_lt (by omega), List.getElem?_eq_getElem hj]
       have := q6 j ds[j] (List.getElem?_eq_getElem hj)
       simpa using this
      ·rw [List.getElem?_eq_none (by rw [List.length_take]; omega), List.getElem?_eq_none (by omega)]
   obtain ⟨ds, hds, hown, hblk⟩ := hown
   have hmul : (m + ys.length) * info.bytes ≤ 140737488355328 := by
    have h1 : (m + ys.length) * info.bytes ≤ 1099511627776 * 128 := Nat.mul_le_mul hlim' (by omega)
    omega
   obtain ⟨v', w', hrun, hown', hgrow, _, hat⟩ := run_append_own_at (P := P) w 0 t ty bx.ty.t info z bx.l.len info.bytes (elem_some ht) hi hzz hsz rfl hzl hpos (a.eval x) m ds hown ⟨b2, o2, none⟩ ys.length c news hnl
    (fun j u hu => by rw [Addr.add_lit]; exact hcells j u hu) (fun u hu => oneCell_of_scalar (VCs_scalar _ _ _ hy2 u hu)) (by simp only [maxLen]; omega) hmul (Nat.zero_le _)
   rw [← hy1] at hrun
   unfold Oper.wp
   rw [append_arg_run hrun, Oper.upon_value]
   rcases hown'.2 with ⟨_, hz0⟩ | ⟨g, cap, cur, hv', _, hg, hle, hcm, hcs, htk⟩
   ·omega
   ·have hrr : ∀ b, (a.eval x).ownBlock = some b → ∃ c, β i = some (some (b, c)) := hblk
    have hcase : (∃ c', β i = some (some (g, c'))) ∨ (g = w.heap.size ∧ g < w'.heap.size) := by
     rw [hv'] at hat
     simp only [Value.ownBlock] at hat
     rcases hat with hat | hat
     ·exact .inl (hblk g hat.symm)
     ·injection hat with hat
      exact .inr ⟨hat, (Array.getElem?_eq_some_iff.1 hg).1⟩
    have hr' := hr.move (hna := rfl) (bx' := ⟨bx.ty.t, bx.l, bx.es ++ ys⟩) (r := (a.eval x).ownBlock) (o := some (g, cap)) hL hgrow hrr (fun b c hb => by injection hb with hb; injection hb with hb hb'; subst hb; exact hcase) (fun β' lat hβ => by
     refine ⟨by simp only [List.length_append, hm]; exact hlim, .inr ⟨g, cap, cur, ds ++ news, hβ, hg, hcs, ⟨by simp only [List.length_append, hm]; exact hle, hcm⟩, app β' w' ds lat hds, fun j x hx => ?_⟩⟩
     have hj := lt_of_get hx
     have hl2 : (ds ++ news).length = (m + ys.length) * bx.l.len := hown'.1
     have h9 : (cur.toList.take ((m + ys.length) * bx.l.len))[j]? = some x := by rw [htk]; exact hx
     rw [List.getElem?_take_of_lt (by omega)] at h9
     simpa using h9)
    refine hK _ _ _ _ _ _ (hr'.puto (dstOk_spec hd) (VR_ref_mk (.inr ⟨g, cap, setβ_self _ _ _, ?_, by omega⟩))) ⟨rfl, rfl⟩
    rw [hv']
    simp
theorem AL_appendn {t e : TypeId} {x y : Operand} {l : Lay} {bytes : Nat} {ys : List D} {z : Value} (hx : ev f x = nilsl) (ht : tyElem P t = some e) (hs : tySize P e = some l.len) (hz : tyZero P e = some (some z)) (hzl : z.cells.size = l.len) (hb : tyBytes P e = some bytes) (hb128 : bytes ≤ 128)
 (hpos : 0 < l.len) (hy : ev f y = .d (.sl l ys)) (hlim : ys.length ≤ lim) (q : Nat) (hq : L.length = q) (hd : dstOk n dst = true)
 (h : AL P C n ops rest Q (updo f dst (.ref l (q + 1) 0 ys.length)) (L ++ [none, some ⟨e, l, ys.map V.d⟩])) : AL P C n ops (⟨dst, callB .append #[x, y] #[t, t], ty, pos, after, none⟩ :: rest) Q f L := by
 subst hq
 intro a w β S hr0
 refine wpList_plain rfl fun Kc hK => ?_
 have hr := hr0.virt e l
 have hxv : a.eval x = .slice none 0 0 := by
  have := rel_ev hr0 x
  rw [hx] at this
  exact (VR_c.1 this).1
 refine append_hv (i := L.length) (m := 0) (bx := ⟨e, l, []⟩) (ys := ys.map V.d) hr ?_ (by simp) rfl ht hs hz hzl hb hb128 hpos rfl rfl (Src_sl hy) (by simpa using hlim) hd Kc _ fun a' w' β' S' f' L' hr' hz => ?_
 ·rw [hxv]
  refine .inr ⟨?_, rfl⟩
  show VC _ _ _ _ [_]
  simp only [VC]
  exact .inl ⟨setβ_self _ _ _, by first | rfl | trivial, by first | rfl | trivial, by first | rfl | trivial⟩
 ·obtain ⟨rfl, rfl⟩ := hz
  refine hK _ _ (h a' w' β' S' ?_)
  have e1 : (L ++ [some (⟨e, l, []⟩ : Box)]).set L.length none ++ [some (⟨e, l, [] ++ ys.map V.d⟩ : Box)] = L ++ [none, some ⟨e, l, ys.map V.d⟩] := by
   rw [List.set_append_right _ _ (by simp)]
   simp
  have e2 : (L ++ [some (⟨e, l, []⟩ : Box)]).length = L.length + 1 := by simp
  rw [e1, e2] at hr'
  simpa using hr'
end
end Go.Eng
set_option linter.unusedVariables false
set_option linter.unusedSimpArgs false
namespace Go.Eng
section
variable {P : Program} {C : Cx} {n : Nat} {f : Fr} {L : Hp} {Q : AQ} {ops : Array Oper} {rest : List Oper} {a : Act} {w : World} {β : Beta} {S : Nat → Prop} {dst : Option Tmp} {ty : TypeId} {pos : String} {after : Array Edge}
theorem Rel.drop (h : Rel C n f L a w β S) (I : List Nat) : Rel C n f (dropL I L) a w β S :=
 ⟨h.df, h.sz, h.fr, ⟨fun i b hi => h.hp.bx i b (dropL_get I L i b hi).1, fun i j b bx bx' c c' hi hj => h.hp.inj i j b bx bx' c c' (dropL_get I L i bx hi).1 (dropL_get I L j bx' hj).1, fun i bx b c hi => h.hp.own i bx b c (dropL_get I L i bx hi).1, h.hp.fz, fun i hi => h.hp.un i (by rw [dropL_length] at hi; exact hi), fun i bx q hi => h.hp.ad i bx q (dropL_get I L i bx hi).1⟩,
  fun i bx b c hi => h.own i bx b c (dropL_get I L i bx hi).1, h.fz, h.s0, h.pres⟩
def TrE (e : TypeId) (w : World) (l : Lay) (xs : List D) (y : Value) (M : List Nat) : Prop :=
 (y = .slice none 0 0 ∧ xs = [] ∧ M = []) ∨
 ∃ b Cp cur vs M', M = b :: M' ∧ b ∉ M' ∧ y = .slice (some ⟨b, 0, none⟩) xs.length Cp ∧ w.heap[b]? = some (.cells cur e (0, 0)) ∧ cur.size = Cp * l.len ∧ xs.length ≤ Cp ∧ Cp ≤ maxLen ∧ xs.length ≤ lim ∧
  Trs w (List.replicate xs.length l) xs vs M' ∧ ∀ (j : Nat) (x : Value), vs[j]? = some x → cur[j]? = some x
theorem TrE.tr {e : TypeId} {l : Lay} {xs : List D} {y : Value} {M : List Nat} (h : TrE e w l xs y M) : Tr w (.sl l xs) [y] M := by
 simp only [Tr]
 rcases h with ⟨rfl, h2, h3⟩ | ⟨b, Cp, cur, vs, M', h1, h2, rfl, h4, h5, h6, h7, h8, h9, h10⟩
 ·exact .inl ⟨rfl, h2, h3⟩
 ·exact .inr ⟨b, Cp, cur, e, vs, M', h1, h2, rfl, h4, h5, h6, h7, h8, h9, h10⟩
theorem TrE.scalar {e : TypeId} {l : Lay} {xs : List D} {y : Value} {M : List Nat} (h : TrE e w l xs y M) : Value.scalar y = true := by
 rcases h with ⟨rfl, _⟩ | ⟨b, Cp, cur, vs, M', h1, h2, rfl, _⟩ <;> rfl
theorem Trs_split {l : Lay} : ∀ (xs : List D) (vs : List Value) (M : List Nat), Trs w (List.replicate xs.length l) xs vs M → ∃ css : List (List Value), vs = css.flatten ∧ css.length = xs.length ∧ ∀ c ∈ css, c.length = l.len
 | [], vs, M, h => by
   simp only [Trs] at h
   exact ⟨[], by simpa using h.2.1, rfl, by simp⟩
 | x :: xs, vs, M, h => by
   simp only [List.length_cons, List.replicate_succ, Trs] at h
   obtain ⟨f, fr, c1, c2, M1, M2, e, rfl, h3, rfl, h5, h6, h7⟩ := h
   injection e with e1 e2
   subst e1; subst e2
   obtain ⟨css, q1, q2, q3⟩ := Trs_split xs c2 M2 h7
   refine ⟨c1 :: css, by rw [q1]; rfl, by simp [q2], fun c hc => ?_⟩
   rcases List.mem_cons.1 hc with rfl | hc
   ·exact h3
   ·exact q3 c hc
theorem Rel.take {w' : World} (hr : Rel C n f L a w β S) (hp : Pres (fun _ => False) w w') {e : TypeId} {l : Lay} {xs : List D} {y : Value} {M : List Nat} (ht : TrE e w' l xs y M) (hlo : ∀ b ∈ M, w.heap.size ≤ b) :
 ∃ C' css K β', CExt C C' ∧ HasL C.w0.heap.size C' l css xs K ∧ VR β' S w' (.ref l (L.length + 1) 0 xs.length) y ∧ Rel C' n f (L ++ [none, some ⟨e, l, (css.map (rawD l)).map V.d⟩]) a w' β' S := by
 have hlist : ∀ bx : Box, (L ++ [some (⟨e, l, []⟩ : Box)]).set L.length none ++ [some bx] = L ++ [none, some bx] := fun bx => by
  rw [List.set_append_right _ _ (by simp)]
  simp
 have hlen1 : (L ++ [some (⟨e, l, []⟩ : Box)]).length = L.length + 1 := by simp
 have hv := hr.virt e l
 generalize hβ' : setβ β L.length none = β' at hv
 have hβj : β' L.length = some none := by rw [← hβ', setβ_self]
 have hLj : (L ++ [some (⟨e, l, []⟩ : Box)])[L.length]? = some (some ⟨e, l, []⟩) := by simp
 have main : ∀ (o' : Option (Nat × Nat)) (css : List (List Value)) (K : List Nat) (vs : List Value), vs = css.flatten → css.length = xs.length → (∀ c ∈ css, c.length = l.len) → Trs w' (List.replicate xs.length l) xs vs K → (∀ b c, o' = some (b, c) → w.heap.size ≤ b ∧ b ∉ K) → (∀ b ∈ K, w.heap.size ≤ b) →
  (∀ β2 : Beta, β2 (L.length + 1) = some o' → BoxR β2 S w' (L.length + 1) ⟨e, l, (css.map (rawD l)).map V.d⟩) → (∀ β2 : Beta, β2 (L.length + 1) = some o' → VR β2 S w' (.ref l (L.length + 1) 0 xs.length) y) →
  ∃ C' css K β', CExt C C' ∧ HasL C.w0.heap.size C' l css xs K ∧ VR β' S w' (.ref l (L.length + 1) 0 xs.length) y ∧ Rel C' n f (L ++ [none, some ⟨e, l, (css.map (rawD l)).map V.d⟩]) a w' β' S := by
  intro o' css K vs hvs hcl hce htr ho hK hbx hvr
  have hr2 := hv.bcall (bx' := ⟨e, l, (css.map (rawD l)).map V.d⟩) (o := none) (o' := o') (S' := S) (w' := w') hLj hβj
   ⟨hp.os, hp.tape, hp.output, hp.size, fun b hb hd => hp.block b hb fun h => h.elim⟩ (fun b c hb => .inr (ho b c hb).1) (fun b c hb hs => by have := hr.hp.fz b hs; have := (ho b c hb).1; omega) (fun _ h => h)
   (fun b hb => ⟨by have := hr.hp.fz b hb; have := hp.size; omega, .inl hb⟩) (fun β2 k2 => by rw [hlen1] at k2 ⊢; exact hbx β2 k2)
  rw [hlist, hlen1] at hr2
  have hβ2 : ∀ i, i < L.length → setβ β' (L.length + 1) o' i = β i := fun i hi => by rw [setβ_ne _ _ (by omega), ← hβ', setβ_ne _ _ (by omega)]
  obtain ⟨g1, g2⟩ := hr2.restart
  refine ⟨_, css, K, _, g1, ⟨by rw [← hvs]; exact htr, hcl, hce, fun b hb ⟨i, bx, c, hL, hβi⟩ => ?_, fun b hb hs => ?_, fun b hb => ?_⟩, hvr _ (setβ_self _ _ _), g2⟩
  ·by_cases hi : i < L.length
   ·rw [List.getElem?_append_left hi] at hL
    rw [hβ2 i hi] at hβi
    have := (hr.hp.bx i bx hL).lt hβi
    have := hK b hb
    omega
   ·by_cases hi2 : i = L.length + 1
    ·subst hi2
     rw [setβ_self] at hβi
     injection hβi with hβi
     exact (ho b c hβi).2 hb
    ·rw [List.getElem?_append_right (by omega)] at hL
     have h3 : i - L.length = 0 ∨ 2 ≤ i - L.length := by omega
     rcases h3 with h3 | h3
     ·rw [h3] at hL; simp at hL
     ·rw [List.getElem?_eq_none (by simpa using h3)] at hL; cases hL
  ·have := hr.hp.fz b hs; have := hK b hb; omega
  ·have := hr.pres.size; have := hK b hb; omega
 rcases ht with ⟨rfl, rfl, rfl⟩ | ⟨b, Cp, cur, vs, M', rfl, hbn, rfl, h4, h5, h6, h7, h8, h9, h10⟩
 ·refine main none [] [] [] rfl rfl (by simp) (by simp [Trs]) (fun _ _ h => by cases h) (by simp) (fun β2 k2 => ⟨by simp, .inl ⟨k2, rfl⟩⟩) (fun β2 k2 => VR_ref_mk (.inl ⟨k2, rfl, rfl, rfl⟩))
 ·obtain ⟨css, q1, q2, q3⟩ := Trs_split xs vs M' h9
  refine main (some (b, Cp)) css M' vs q1 q2 q3 h9 (fun b' c' hb => by injection hb with hb; injection hb with hb hb'; subst hb; exact ⟨hlo _ (by simp), hbn⟩) (fun b' hb => hlo b' (by simp [hb])) (fun β2 k2 => ⟨by simp [q2]; exact h8, .inr ⟨b, Cp, cur, vs, k2, h4, h5, ⟨by simp [q2]; exact h6, h7⟩, ?_, h10⟩⟩)
   (fun β2 k2 => VR_ref_mk (.inr ⟨b, Cp, k2, by simp, by omega⟩))
  have := DCs_rawD_mk (S := S) (w := w') css q3 (by rw [← q1]; exact Trs_scalar _ _ _ _ h9)
  rw [q1]
  have h := (VCs_d (β := β2) (css.map (rawD l)) (List.replicate css.length l) css.flatten).2 this
  simpa using h
def tupV : List Value → Value
 | [x] => x
 | xs => .tuple xs.toArray
theorem tupV_eq (xs : List Value) : (if h : xs.toArray.size = 1 then xs.toArray[0] else .tuple xs.toArray) = tupV xs := by
 match xs with
 | [] => rfl
 | [x] => rfl
 | x :: y :: r => simp [tupV]
def OTCall (P : Program) (k : FuncId) (ds : List D) (e : TypeId) (l : Lay) (xs : List D) (sc : List Value) : Prop :=
 ∀ (w : World) (S : Nat → Prop) (vs : List Value), (∀ b, S b → b < w.heap.size) → Tab P S w → All2 (RD S w) ds vs →
  Calls P k vs.toArray w fun en w' => ∃ y M, en = .returned (tupV (y :: sc)) ∧ TrE e w' l xs y M ∧ (∀ b ∈ M, w.heap.size ≤ b) ∧ Pres (fun _ => False) w w'
theorem OTCall.ocall {k : FuncId} {ds : List D} {e : TypeId} {l : Lay} {xs : List D} (h : OTCall P k ds e l xs []) : OCall P k ds (.sl l xs) := fun w S vs hS hT hd =>
 (h w S vs hS hT hd).mono fun en w' ⟨y, M, h1, h2, h3, h4⟩ => ⟨y, M, h1, by rw [cells_scalar h2.scalar]; exact h2.tr, (isAgg_scalar h2.scalar).symm, h3, h4⟩
theorem OTCall.pcall {k : FuncId} {ds : List D} {e : TypeId} {l : Lay} {xs : List D} {sc : List Value} (h : OTCall P k ds e l xs sc) (hs : sc.all Value.scalar = true) : PCall P k ds (· = .sl l xs :: sc.map D.c) := fun w S vs hS hT hd =>
 (h w S vs hS hT hd).mono fun en w' ⟨y, M, h1, h2, h3, h4⟩ => by
   have hlt := Tr_lt _ _ _ h2.tr
   refine ⟨_, _, fun b => S b ∨ b ∈ M, h1, rfl, ?_, fun b hb => .inl hb, fun b hb => ?_, h4⟩
   ·have hrd : RD (fun b => S b ∨ b ∈ M) w' (.sl l xs) y := ⟨by rw [cells_scalar h2.scalar]; exact Tr_DC _ _ _ (fun b hb => .inr hb) h2.tr, (isAgg_scalar h2.scalar).symm⟩
    cases sc with
    | nil => exact hrd
    | cons x r =>
      exact ⟨y :: x :: r, rfl, .cons hrd (RDs_c (x :: r) hs)⟩
   ·rcases hb with hb | hb
    ·have := hS b hb; have := h4.size; exact ⟨by omega, .inl hb⟩
    ·exact ⟨hlt b hb, .inr (h3 b hb)⟩
def retVT (l : Lay) (q m : Nat) (sc : List Value) : V := match sc with
 | [] => .ref l q 0 m
 | sc => .tup (.ref l q 0 m :: sc.map fun x => V.d (.c x))
inductive OwT (B : Nat) (C : Cx) (L : Hp) (e : TypeId) (l : Lay) : V → List D → Prop
 | nil : OwT B C L e l nilsl []
 | ref {i m : Nat} {bx : Box} {ds : List D} {I K : List Nat} : L[i]? = some (some bx) → bx.ty = e → bx.l = l → bx.es.length = m → OwVs B C L (List.replicate m l) bx.es ds I K → i ∉ I → OwT B C L e l (.ref l i 0 m) ds
def retT (fn : Func) (P : Program) (w0 : World) (e : TypeId) (l : Lay) (xs : List D) (sc : List Value) (a : Act) (w' : World) : Prop :=
 a.defers = [] ∧ ∃ x, (results fn a.tmps).run P w' = .ok x w' ∧ ∃ y M, x = tupV (y :: sc) ∧ TrE e w' l xs y M ∧ (∀ b ∈ M, w0.heap.size ≤ b) ∧ Pres (fun _ => False) w0 w'
def retTQ (fn : Func) (P : Program) (w0 : World) (e : TypeId) (l : Lay) (xs : List D) (sc : List Value) : AQ := fun en a w => ends en = true ∧ retT fn P w0 e l xs sc a w
theorem HasL.app {B B' : Nat} {l : Lay} {css css' : List (List Value)} {ds ds' : List D} {K K' : List Nat} (h : HasL B C l css ds K) (k : HasL B' C l css' ds' K') (hB : B ≤ B') (hd : ∀ b ∈ K, b < B') : HasL B C l (css ++ css') (ds ++ ds') (K ++ K') := by
 refine ⟨?_, by simp [h.len, k.len], fun c hc => ?_, fun b hb => ?_, fun b hb => ?_, fun b hb => ?_⟩
 ·rw [List.length_append, ← List.replicate_append_replicate, List.flatten_append]
  exact Trs_app _ _ _ _ h.tr k.tr fun b hb hb' => by have := hd b hb; have := k.lo b hb'; omega
 ·rcases List.mem_append.1 hc with hc | hc
  ·exact h.each c hc
  ·exact k.each c hc
 ·rcases List.mem_append.1 hb with hb | hb
  ·exact h.dm b hb
  ·exact k.dm b hb
 ·rcases List.mem_append.1 hb with hb | hb
  ·exact h.s0 b hb
  ·exact k.s0 b hb
 ·rcases List.mem_append.1 hb with hb | hb
  ·exact h.lo b hb
  ·have := k.lo b hb; omega
theorem HasL.lt {B : Nat} {l : Lay} {css : List (List Value)} {ds : List D} {K : List Nat} (h : HasL B C l css ds K) : ∀ b ∈ K, b < C.w0.heap.size := Trs_lt _ _ _ _ h.tr
theorem Ev_buildD {g : Option (Nat × Bool)} {t : TypeId} {parts : Array (Nat × Operand)} {fs : List Lay} {zs : List D} {z : Value} {vs : List V} {ds : List D} (hz : tyZero P t = some (some z)) (hzc : cellsDs fs zs = some z.cells.toList) (hp : tyPlaces P t = some (layPlaces 0 fs)) (hb : BS f fs (zs.map V.d) parts.toList vs) (ha : allD vs = some ds) :
 Ev P C n ⟨dst, .build t parts, ty, pos, after, g⟩ f L (.d (.agg fs ds)) := by
 intro a w β S hr
 obtain ⟨x, h1, h2⟩ := Ev_build (C := C) (n := n) (L := L) (dst := dst) (ty := ty) (pos := pos) (after := after) (g := g) hz hzc hp hb a w β S hr
 refine ⟨x, h1, ?_⟩
 rw [allD_spec ha] at h2
 rcases h2 with h2 | ⟨h2, h3⟩
 ·cases h2
 ·refine .inr ⟨?_, h3⟩
  simp only [VC, DC] at h2 ⊢
  exact (VCs_dc ds fs _).1 h2
def BTCall (P : Program) (k : FuncId) (pre : List D) (e : TypeId) (l : Lay) (xs : List D) (suf : List D) (ys : List D) (sc : List Value) : Prop :=
 ∀ (w : World) (S : Nat → Prop) (pv : List Value) (x : Value) (sv : List Value) (o : Option (Nat × Nat)), (∀ b, S b → b < w.heap.size) → Tab P S w → All2 (RD S w) pre pv → All2 (RD S w) suf sv → LB S w e l xs x o →
  Calls P k (pv ++ x :: sv).toArray w fun en w' => ∃ y S' o', en = .returned (tupV (y :: sc)) ∧ LB S' w' e l ys y o' ∧ (∀ b c, o' = some (b, c) → (∃ c0, o = some (b, c0)) ∨ w.heap.size ≤ b) ∧ (∀ b, S b → S' b) ∧ (∀ b, S' b → b < w'.heap.size ∧ (S b ∨ w.heap.size ≤ b ∨ ∃ c, o = some (b, c))) ∧
   Pres (fun b => ∃ c, o = some (b, c)) w w'
def retBT (fn : Func) (P : Program) (w0 : World) (S0 : Nat → Prop) (o : Option (Nat × Nat)) (e : TypeId) (l : Lay) (ys : List D) (sc : List Value) (a : Act) (w' : World) : Prop :=
 a.defers = [] ∧ ∃ x, (results fn a.tmps).run P w' = .ok x w' ∧ ∃ y S' o', x = tupV (y :: sc) ∧ LB S' w' e l ys y o' ∧ (∀ b c, o' = some (b, c) → (∃ c0, o = some (b, c0)) ∨ w0.heap.size ≤ b) ∧ (∀ b, S0 b → S' b) ∧ (∀ b, S' b → b < w'.heap.size ∧ (S0 b ∨ w0.heap.size ≤ b ∨ ∃ c, o = some (b, c))) ∧
  Pres (fun b => ∃ c, o = some (b, c)) w0 w'
def retBTQ (fn : Func) (P : Program) (w0 : World) (S0 : Nat → Prop) (o : Option (Nat × Nat)) (e : TypeId) (l : Lay) (ys : List D) (sc : List Value) : AQ := fun x a w => ends x = true ∧ retBT fn P w0 S0 o e l ys sc a w
def retVR (A : Value) (sc : List Value) : V := match sc with
 | [] => .d (.c A)
 | sc => .tup (.d (.c A) :: sc.map fun x => V.d (.c x))
theorem HasL.one {B : Nat} {C' : Cx} {l : Lay} {d : D} {cs : List Value} {K : List Nat} (g : Got C d l C' cs K) (hB : B ≤ C.w0.heap.size) (hl : d.len? = l.len) : HasL B C' l [cs] [d] K := by
 have := (HasL.nil (B := B) (C := C) (l := l)).snoc g.ext g.has hB hl
 simpa using this
end
end Go.Eng

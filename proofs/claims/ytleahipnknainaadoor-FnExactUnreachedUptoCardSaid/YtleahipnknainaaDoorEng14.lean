/- The engine: the rules for a region that draws its order. -/
import Derived.Test.YtleahipnknainaaDoorEng13
set_option linter.unusedVariables false
set_option linter.unusedSimpArgs false
namespace Go.Eng

/-- A rule that looks at its operands alone. -/
def EvA (P : Program) (n : Nat) (o : Oper) (f : Fr) (L : Hp) (v : V) : Prop :=
  ∀ C f', (∀ x ∈ o.op.operands, ev f' x = ev f x) → ∀ L' : Hp, (readsHp o.op = true → L' = L) → Ev P C n o f' L' v
theorem map_congr {f f2 : Fr} {lo : Option Operand} (h : ∀ x ∈ lo, ev f2 x = ev f x) : lo.map (ev f2) = lo.map (ev f) := by
  cases lo with
  | none => rfl
  | some x => simp [h x rfl]
theorem maps_congr {f f2 : Fr} {l : List Operand} (h : ∀ x ∈ l, ev f2 x = ev f x) : l.map (ev f2) = l.map (ev f) := List.map_congr_left h

section
variable {P : Program} {C : Cx} {n : Nat} {f : Fr} {L : Hp} {dst : Option Tmp} {ty : TypeId} {pos : String} {after : Array Edge} {g : Option (Nat × Bool)}
theorem EA_move {x : Operand} : EvA P n ⟨dst, .move x, ty, pos, after, g⟩ f L (ev f x) := fun C_ f2_ hf_ L2_ hL_ => by rw [← hf_ x (by simp [Op.operands])]; exact Ev_move
theorem EA_assign {x : Operand} : EvA P n ⟨dst, .assign x, ty, pos, after, g⟩ f L (ev f x) := fun C_ f2_ hf_ L2_ hL_ => by rw [← hf_ x (by simp [Op.operands])]; exact Ev_assign
theorem EA_pick {c x y : Operand} {b : Bool} (hc : ev f c = bl b) : EvA P n ⟨dst, .pick c x y, ty, pos, after, g⟩ f L (bif b then ev f x else ev f y) := fun C_ f2_ hf_ L2_ hL_ => by
  rw [← hf_ x (by simp [Op.operands]), ← hf_ y (by simp [Op.operands])]
  exact Ev_pick ((hf_ c (by simp [Op.operands])).trans hc)
theorem EA_add {t ty' : TypeId} {x y : Operand} {k : IntKind} {u v : Int} (hx : ev f x = .d (.c (.int k u))) (hy : ev f y = .d (.c (.int k v))) (z : Int) (hz : k.wrap (u + v) = z) : EvA P n ⟨dst, .binOp .add t x y ty', ty, pos, after, g⟩ f L (.d (.c (.int k z))) := fun C_ f2_ hf_ L2_ hL_ => Ev_add ((hf_ x (by simp [Op.operands, Call.operands])).trans hx) ((hf_ y (by simp [Op.operands, Call.operands])).trans hy) z hz
theorem EA_sub {t ty' : TypeId} {x y : Operand} {k : IntKind} {u v : Int} (hx : ev f x = .d (.c (.int k u))) (hy : ev f y = .d (.c (.int k v))) (z : Int) (hz : k.wrap (u - v) = z) : EvA P n ⟨dst, .binOp .sub t x y ty', ty, pos, after, g⟩ f L (.d (.c (.int k z))) := fun C_ f2_ hf_ L2_ hL_ => Ev_sub ((hf_ x (by simp [Op.operands, Call.operands])).trans hx) ((hf_ y (by simp [Op.operands, Call.operands])).trans hy) z hz
theorem EA_mul {t ty' : TypeId} {x y : Operand} {k : IntKind} {u v : Int} (hx : ev f x = .d (.c (.int k u))) (hy : ev f y = .d (.c (.int k v))) (z : Int) (hz : k.wrap (u * v) = z) : EvA P n ⟨dst, .binOp .mul t x y ty', ty, pos, after, g⟩ f L (.d (.c (.int k z))) := fun C_ f2_ hf_ L2_ hL_ => Ev_mul ((hf_ x (by simp [Op.operands, Call.operands])).trans hx) ((hf_ y (by simp [Op.operands, Call.operands])).trans hy) z hz
theorem EA_quo {t ty' : TypeId} {x y : Operand} {k : IntKind} {u v : Int} (hx : ev f x = .d (.c (.int k u))) (hy : ev f y = .d (.c (.int k v))) (h0 : v ≠ 0) (z : Int) (hz : k.wrap (u.tdiv v) = z) : EvA P n ⟨dst, .binOp .quo t x y ty', ty, pos, after, g⟩ f L (.d (.c (.int k z))) := fun C_ f2_ hf_ L2_ hL_ => Ev_quo ((hf_ x (by simp [Op.operands, Call.operands])).trans hx) ((hf_ y (by simp [Op.operands, Call.operands])).trans hy) h0 z hz
theorem EA_rem {t ty' : TypeId} {x y : Operand} {k : IntKind} {u v : Int} (hx : ev f x = .d (.c (.int k u))) (hy : ev f y = .d (.c (.int k v))) (h0 : v ≠ 0) : EvA P n ⟨dst, .binOp .rem t x y ty', ty, pos, after, g⟩ f L (.d (.c (.int k (u.tmod v)))) := fun C_ f2_ hf_ L2_ hL_ => Ev_rem ((hf_ x (by simp [Op.operands, Call.operands])).trans hx) ((hf_ y (by simp [Op.operands, Call.operands])).trans hy) h0
theorem EA_shl {t ty' : TypeId} {x y : Operand} {k k' : IntKind} {u v : Int} (hx : ev f x = .d (.c (.int k u))) (hy : ev f y = .d (.c (.int k' v))) (h0 : ¬ v < 0) (z : Int) (hz : k.wrap (u * 2 ^ (min v.toNat k.bits)) = z) : EvA P n ⟨dst, .binOp .shl t x y ty', ty, pos, after, g⟩ f L (.d (.c (.int k z))) := fun C_ f2_ hf_ L2_ hL_ => Ev_shl ((hf_ x (by simp [Op.operands, Call.operands])).trans hx) ((hf_ y (by simp [Op.operands, Call.operands])).trans hy) h0 z hz
theorem EA_shr {t ty' : TypeId} {x y : Operand} {k k' : IntKind} {u v : Int} (hx : ev f x = .d (.c (.int k u))) (hy : ev f y = .d (.c (.int k' v))) (h0 : ¬ v < 0) : EvA P n ⟨dst, .binOp .shr t x y ty', ty, pos, after, g⟩ f L (.d (.c (.int k (u.fdiv (2 ^ (min v.toNat k.bits)))))) := fun C_ f2_ hf_ L2_ hL_ => Ev_shr ((hf_ x (by simp [Op.operands, Call.operands])).trans hx) ((hf_ y (by simp [Op.operands, Call.operands])).trans hy) h0
theorem EA_and {t ty' : TypeId} {x y : Operand} {k : IntKind} {u v : Int} (hx : ev f x = .d (.c (.int k u))) (hy : ev f y = .d (.c (.int k v))) : EvA P n ⟨dst, .binOp .and t x y ty', ty, pos, after, g⟩ f L (.d (.c (.int k (k.wrap (BitVec.ofInt k.bits u &&& BitVec.ofInt k.bits v).toNat)))) := fun C_ f2_ hf_ L2_ hL_ => Ev_and ((hf_ x (by simp [Op.operands, Call.operands])).trans hx) ((hf_ y (by simp [Op.operands, Call.operands])).trans hy)
theorem EA_xor {t ty' : TypeId} {x y : Operand} {k : IntKind} {u v : Int} (hx : ev f x = .d (.c (.int k u))) (hy : ev f y = .d (.c (.int k v))) : EvA P n ⟨dst, .binOp .xor t x y ty', ty, pos, after, g⟩ f L (.d (.c (.int k (k.wrap (BitVec.ofInt k.bits u ^^^ BitVec.ofInt k.bits v).toNat)))) := fun C_ f2_ hf_ L2_ hL_ => Ev_xor ((hf_ x (by simp [Op.operands, Call.operands])).trans hx) ((hf_ y (by simp [Op.operands, Call.operands])).trans hy)
theorem EA_eql {t ty' : TypeId} {x y : Operand} {k : IntKind} {u v : Int} (hx : ev f x = .d (.c (.int k u))) (hy : ev f y = .d (.c (.int k v))) : EvA P n ⟨dst, .binOp .eql t x y ty', ty, pos, after, g⟩ f L (bl (decide (u = v))) := fun C_ f2_ hf_ L2_ hL_ => Ev_eql ((hf_ x (by simp [Op.operands, Call.operands])).trans hx) ((hf_ y (by simp [Op.operands, Call.operands])).trans hy)
theorem EA_neq {t ty' : TypeId} {x y : Operand} {k : IntKind} {u v : Int} (hx : ev f x = .d (.c (.int k u))) (hy : ev f y = .d (.c (.int k v))) : EvA P n ⟨dst, .binOp .neq t x y ty', ty, pos, after, g⟩ f L (bl (!decide (u = v))) := fun C_ f2_ hf_ L2_ hL_ => Ev_neq ((hf_ x (by simp [Op.operands, Call.operands])).trans hx) ((hf_ y (by simp [Op.operands, Call.operands])).trans hy)
theorem EA_lss {t ty' : TypeId} {x y : Operand} {k : IntKind} {u v : Int} (hx : ev f x = .d (.c (.int k u))) (hy : ev f y = .d (.c (.int k v))) : EvA P n ⟨dst, .binOp .lss t x y ty', ty, pos, after, g⟩ f L (bl (decide (u < v))) := fun C_ f2_ hf_ L2_ hL_ => Ev_lss ((hf_ x (by simp [Op.operands, Call.operands])).trans hx) ((hf_ y (by simp [Op.operands, Call.operands])).trans hy)
theorem EA_leq {t ty' : TypeId} {x y : Operand} {k : IntKind} {u v : Int} (hx : ev f x = .d (.c (.int k u))) (hy : ev f y = .d (.c (.int k v))) : EvA P n ⟨dst, .binOp .leq t x y ty', ty, pos, after, g⟩ f L (bl (decide (u ≤ v))) := fun C_ f2_ hf_ L2_ hL_ => Ev_leq ((hf_ x (by simp [Op.operands, Call.operands])).trans hx) ((hf_ y (by simp [Op.operands, Call.operands])).trans hy)
theorem EA_gtr {t ty' : TypeId} {x y : Operand} {k : IntKind} {u v : Int} (hx : ev f x = .d (.c (.int k u))) (hy : ev f y = .d (.c (.int k v))) : EvA P n ⟨dst, .binOp .gtr t x y ty', ty, pos, after, g⟩ f L (bl (decide (v < u))) := fun C_ f2_ hf_ L2_ hL_ => Ev_gtr ((hf_ x (by simp [Op.operands, Call.operands])).trans hx) ((hf_ y (by simp [Op.operands, Call.operands])).trans hy)
theorem EA_geq {t ty' : TypeId} {x y : Operand} {k : IntKind} {u v : Int} (hx : ev f x = .d (.c (.int k u))) (hy : ev f y = .d (.c (.int k v))) : EvA P n ⟨dst, .binOp .geq t x y ty', ty, pos, after, g⟩ f L (bl (decide (v ≤ u))) := fun C_ f2_ hf_ L2_ hL_ => Ev_geq ((hf_ x (by simp [Op.operands, Call.operands])).trans hx) ((hf_ y (by simp [Op.operands, Call.operands])).trans hy)
theorem EA_seql {t ty' : TypeId} {x y : Operand} {u v : ByteArray} (hx : ev f x = st u) (hy : ev f y = st v) : EvA P n ⟨dst, .binOp .eql t x y ty', ty, pos, after, g⟩ f L (bl (decide (u = v))) := fun C_ f2_ hf_ L2_ hL_ => Ev_seql ((hf_ x (by simp [Op.operands, Call.operands])).trans hx) ((hf_ y (by simp [Op.operands, Call.operands])).trans hy)
theorem EA_sneq {t ty' : TypeId} {x y : Operand} {u v : ByteArray} (hx : ev f x = st u) (hy : ev f y = st v) : EvA P n ⟨dst, .binOp .neq t x y ty', ty, pos, after, g⟩ f L (bl (!decide (u = v))) := fun C_ f2_ hf_ L2_ hL_ => Ev_sneq ((hf_ x (by simp [Op.operands, Call.operands])).trans hx) ((hf_ y (by simp [Op.operands, Call.operands])).trans hy)
theorem EA_slss {t ty' : TypeId} {x y : Operand} {u v : ByteArray} (hx : ev f x = st u) (hy : ev f y = st v) : EvA P n ⟨dst, .binOp .lss t x y ty', ty, pos, after, g⟩ f L (bl (sless u v)) := fun C_ f2_ hf_ L2_ hL_ => Ev_slss ((hf_ x (by simp [Op.operands, Call.operands])).trans hx) ((hf_ y (by simp [Op.operands, Call.operands])).trans hy)
theorem EA_sgtr {t ty' : TypeId} {x y : Operand} {u v : ByteArray} (hx : ev f x = st u) (hy : ev f y = st v) : EvA P n ⟨dst, .binOp .gtr t x y ty', ty, pos, after, g⟩ f L (bl (!(sless u v || decide (u = v)))) := fun C_ f2_ hf_ L2_ hL_ => Ev_sgtr ((hf_ x (by simp [Op.operands, Call.operands])).trans hx) ((hf_ y (by simp [Op.operands, Call.operands])).trans hy)
theorem EA_sadd {t ty' : TypeId} {x y : Operand} {u v : ByteArray} (hx : ev f x = st u) (hy : ev f y = st v) (hb : u.size + v.size ≤ 4611686018427387904) : EvA P n ⟨dst, .binOp .add t x y ty', ty, pos, after, g⟩ f L (st (u ++ v)) := fun C_ f2_ hf_ L2_ hL_ => Ev_sadd ((hf_ x (by simp [Op.operands, Call.operands])).trans hx) ((hf_ y (by simp [Op.operands, Call.operands])).trans hy) hb
theorem EA_not {t : TypeId} {x : Operand} {b : Bool} (hx : ev f x = bl b) : EvA P n ⟨dst, .unOp .not t x, ty, pos, after, g⟩ f L (bl (!b)) := fun C_ f2_ hf_ L2_ hL_ => Ev_not ((hf_ x (by simp [Op.operands, Call.operands])).trans hx)
theorem EA_neg {t : TypeId} {x : Operand} {k : IntKind} {u : Int} (hx : ev f x = .d (.c (.int k u))) (z : Int) (hz : k.wrap (-u) = z) : EvA P n ⟨dst, .unOp .neg t x, ty, pos, after, g⟩ f L (.d (.c (.int k z))) := fun C_ f2_ hf_ L2_ hL_ => Ev_neg ((hf_ x (by simp [Op.operands, Call.operands])).trans hx) z hz
theorem EA_conv_int {s d : TypeId} {x : Operand} {k k' : IntKind} {u : Int} (hs : (P.underlying s).isSome = true) (hd : tyInt P d = some k') (hx : ev f x = .d (.c (.int k u))) (z : Int) (hz : k'.wrap u = z) : EvA P n ⟨dst, .convert s d x, ty, pos, after, g⟩ f L (.d (.c (.int k' z))) := fun C_ f2_ hf_ L2_ hL_ => Ev_conv_int hs hd ((hf_ x (by simp [Op.operands, Call.operands])).trans hx) z hz
theorem EA_conv_str {s d : TypeId} {x : Operand} {u : ByteArray} (hs : (P.underlying s).isSome = true) (hd : tyStr P d = true) (hx : ev f x = st u) : EvA P n ⟨dst, .convert s d x, ty, pos, after, g⟩ f L (st u) := fun C_ f2_ hf_ L2_ hL_ => Ev_conv_str hs hd ((hf_ x (by simp [Op.operands, Call.operands])).trans hx)
theorem EA_len_sl {t e : TypeId} {x : Operand} {l : Lay} {xs : List D} (ht : tyElem P t = some e) (hx : ev f x = .d (.sl l xs)) : EvA P n ⟨dst, callB .len #[x] #[t], ty, pos, after, g⟩ f L (i64 xs.length) := fun C_ f2_ hf_ L2_ hL_ => Ev_len_sl ht ((hf_ x (by simp [Op.operands, Call.operands])).trans hx)
theorem EA_len_ref {t e : TypeId} {x : Operand} {l : Lay} {i off m : Nat} (ht : tyElem P t = some e) (hx : ev f x = .ref l i off m) : EvA P n ⟨dst, callB .len #[x] #[t], ty, pos, after, g⟩ f L (i64 m) := fun C_ f2_ hf_ L2_ hL_ => Ev_len_ref ht ((hf_ x (by simp [Op.operands, Call.operands])).trans hx)
theorem EA_len_nil {t e : TypeId} {x : Operand} (ht : tyElem P t = some e) (hx : ev f x = nilsl) : EvA P n ⟨dst, callB .len #[x] #[t], ty, pos, after, g⟩ f L (i64 0) := fun C_ f2_ hf_ L2_ hL_ => Ev_len_nil ht ((hf_ x (by simp [Op.operands, Call.operands])).trans hx)
theorem EA_len_str {t : TypeId} {x : Operand} {s : ByteArray} (ht : tyStr P t = true) (hx : ev f x = st s) : EvA P n ⟨dst, callB .len #[x] #[t], ty, pos, after, g⟩ f L (i64 s.size) := fun C_ f2_ hf_ L2_ hL_ => Ev_len_str ht ((hf_ x (by simp [Op.operands, Call.operands])).trans hx)
theorem EA_min {t u : TypeId} {x y : Operand} {k : IntKind} {a b : Int} (hx : ev f x = .d (.c (.int k a))) (hy : ev f y = .d (.c (.int k b))) : EvA P n ⟨dst, callB .min #[x, y] #[t, u], ty, pos, after, g⟩ f L (.d (.c (.int k (min a b)))) := fun C_ f2_ hf_ L2_ hL_ => Ev_min ((hf_ x (by simp [Op.operands, Call.operands])).trans hx) ((hf_ y (by simp [Op.operands, Call.operands])).trans hy)
theorem EA_max {t u : TypeId} {x y : Operand} {k : IntKind} {a b : Int} (hx : ev f x = .d (.c (.int k a))) (hy : ev f y = .d (.c (.int k b))) : EvA P n ⟨dst, callB .max #[x, y] #[t, u], ty, pos, after, g⟩ f L (.d (.c (.int k (max a b)))) := fun C_ f2_ hf_ L2_ hL_ => Ev_max ((hf_ x (by simp [Op.operands, Call.operands])).trans hx) ((hf_ y (by simp [Op.operands, Call.operands])).trans hy)
theorem EA_load_ptr {t : TypeId} {x : Operand} {l l' l'' : Lay} {i k o : Nat} {p : List Nat} {bx : Box} {e y : V} (hx : ev f x = .ptr l i k p) (hL : L[i]? = some (some bx)) (hbl : bx.l = l) (he : bx.es[k]? = some e)
    (hp : e.at? l p = some (o, l', y)) (hq : l.at? p = some (o, l'')) (hs : tySize P t = some l'.len) {ag : Bool} (ha : tyAgg P t = some ag) (hag : y.isAgg = ag) (h1 : ag = false → l'.len = 1) : EvA P n ⟨dst, .load t x, ty, pos, after, g⟩ f L y := fun C_ f2_ hf_ L2_ hL_ => Ev_load_ptr ((hf_ x (by simp [Op.operands, Call.operands])).trans hx) (by rw [hL_ rfl]; exact hL) hbl he hp hq hs ha hag h1
theorem EA_load_rp {t : TypeId} {x : Operand} {l l' l'' : Lay} {o : Nat} {p : List Nat} {e y : D} (hx : ev f x = .d (.rp l e p))
    (hp : e.at? l p = some (o, l', y)) (hq : l.at? p = some (o, l'')) (hs : tySize P t = some l'.len) {ag : Bool} (ha : tyAgg P t = some ag) (hag : y.isAgg = ag) (h1 : ag = false → l'.len = 1) : EvA P n ⟨dst, .load t x, ty, pos, after, g⟩ f L (.d y) := fun C_ f2_ hf_ L2_ hL_ => Ev_load_rp ((hf_ x (by simp [Op.operands, Call.operands])).trans hx) hp hq hs ha hag h1
theorem EA_fa_ptr {s : TypeId} {x : Operand} {l l1 l2 : Lay} {i k j o0 o : Nat} {p : List Nat} (hx : ev f x = .ptr l i k p) (hf : tyField P s j = some (o, true)) (h1 : l.at? p = some (o0, l1)) (h2 : l.at? (p ++ [j]) = some (o0 + o, l2)) : EvA P n ⟨dst, .fieldAddr s x j, ty, pos, after, g⟩ f L (.ptr l i k (p ++ [j])) := fun C_ f2_ hf_ L2_ hL_ => Ev_fa_ptr ((hf_ x (by simp [Op.operands, Call.operands])).trans hx) hf h1 h2
theorem EA_fa_rp {s : TypeId} {x : Operand} {l l1 l2 : Lay} {j o0 o : Nat} {p : List Nat} {e : D} (hx : ev f x = .d (.rp l e p)) (hf : tyField P s j = some (o, true)) (h1 : l.at? p = some (o0, l1)) (h2 : l.at? (p ++ [j]) = some (o0 + o, l2)) : EvA P n ⟨dst, .fieldAddr s x j, ty, pos, after, g⟩ f L (.d (.rp l e (p ++ [j]))) := fun C_ f2_ hf_ L2_ hL_ => Ev_fa_rp ((hf_ x (by simp [Op.operands, Call.operands])).trans hx) hf h1 h2
theorem EA_nilc_ptr {x : Operand} {l : Lay} {i k : Nat} {p : List Nat} (hx : ev f x = .ptr l i k p) : EvA P n ⟨dst, .nilCheck x, ty, pos, after, g⟩ f L (.ptr l i k p) := fun C_ f2_ hf_ L2_ hL_ => Ev_nilc_ptr ((hf_ x (by simp [Op.operands, Call.operands])).trans hx)
theorem EA_nilc_rp {x : Operand} {l : Lay} {e : D} {p : List Nat} (hx : ev f x = .d (.rp l e p)) : EvA P n ⟨dst, .nilCheck x, ty, pos, after, g⟩ f L (.d (.rp l e p)) := fun C_ f2_ hf_ L2_ hL_ => Ev_nilc_rp ((hf_ x (by simp [Op.operands, Call.operands])).trans hx)
theorem EA_ix_sl {t e : TypeId} {x y : Operand} {k : IntKind} {j : Int} {l : Lay} {xs : List D} {z : D} (hx : ev f x = .d (.sl l xs)) (hy : ev f y = .d (.c (.int k j))) (ht : tyElem P t = some e) (hs : tySize P e = some l.len) (h0 : 0 ≤ j) (hz : xs[j.toNat]? = some z) : EvA P n ⟨dst, .indexAddr t x y, ty, pos, after, g⟩ f L (.d (.rp l z [])) := fun C_ f2_ hf_ L2_ hL_ => Ev_ix_sl ((hf_ x (by simp [Op.operands, Call.operands])).trans hx) ((hf_ y (by simp [Op.operands, Call.operands])).trans hy) ht hs h0 hz
theorem EA_ix_ref {t e : TypeId} {x y : Operand} {k : IntKind} {j : Int} {l : Lay} {i off m : Nat} (hx : ev f x = .ref l i off m) (hy : ev f y = .d (.c (.int k j))) (ht : tyElem P t = some e) (hs : tySize P e = some l.len) (h0 : 0 ≤ j) (h1 : j < m) : EvA P n ⟨dst, .indexAddr t x y, ty, pos, after, g⟩ f L (.ptr l i (off + j.toNat) []) := fun C_ f2_ hf_ L2_ hL_ => Ev_ix_ref ((hf_ x (by simp [Op.operands, Call.operands])).trans hx) ((hf_ y (by simp [Op.operands, Call.operands])).trans hy) ht hs h0 h1
theorem EA_ix_str {t : TypeId} {x y : Operand} {k : IntKind} {j : Int} {s : ByteArray} {u : UInt8} (ht : tyStr P t = true) (hx : ev f x = st s) (hy : ev f y = .d (.c (.int k j))) (h0 : 0 ≤ j) (hu : s[j.toNat]? = some u) : EvA P n ⟨dst, .index t x y, ty, pos, after, g⟩ f L (.d (.c (.int .u8 u.toNat))) := fun C_ f2_ hf_ L2_ hL_ => Ev_ix_str ht ((hf_ x (by simp [Op.operands, Call.operands])).trans hx) ((hf_ y (by simp [Op.operands, Call.operands])).trans hy) h0 hu
theorem EA_slice_str {t : TypeId} {x : Operand} {lo hi : Option Operand} {i j : Int} {s : ByteArray} (ht : tyStr P t = true) (hx : ev f x = st s) (hlo : loV (lo.map (ev f)) = some i) (hhi : hiV s.size (hi.map (ev f)) = some j)
    (h0 : 0 ≤ i) (h1 : i ≤ j) (h2 : j ≤ s.size) : EvA P n ⟨dst, .slice t x lo hi none, ty, pos, after, g⟩ f L (st (s.extract i.toNat j.toNat)) := fun C_ f2_ hf_ L2_ hL_ => Ev_slice_str ht ((hf_ x (by simp [Op.operands, Call.operands])).trans hx) (by rw [map_congr (f := f) (f2 := f2_) (fun x_ hx_ => hf_ x_ (by cases lo <;> simp_all [Op.operands]))]; exact hlo) (by rw [map_congr (f := f) (f2 := f2_) (fun x_ hx_ => hf_ x_ (by cases hi <;> simp_all [Op.operands]))]; exact hhi) h0 h1 h2
theorem EA_slice_sl {t e : TypeId} {x : Operand} {lo hi : Option Operand} {i j : Int} {l : Lay} {xs : List D} (hx : ev f x = .d (.sl l xs)) (ht : tyElem P t = some e) (hs : tySize P e = some l.len) (hlo : loV (lo.map (ev f)) = some i) (hhi : hiV xs.length (hi.map (ev f)) = some j)
    (h0 : 0 ≤ i) (h1 : i ≤ j) (h2 : j ≤ xs.length) : EvA P n ⟨dst, .slice t x lo hi none, ty, pos, after, g⟩ f L (.d (.sl l ((xs.take j.toNat).drop i.toNat))) := fun C_ f2_ hf_ L2_ hL_ => Ev_slice_sl ((hf_ x (by simp [Op.operands, Call.operands])).trans hx) ht hs (by rw [map_congr (f := f) (f2 := f2_) (fun x_ hx_ => hf_ x_ (by cases lo <;> simp_all [Op.operands]))]; exact hlo) (by rw [map_congr (f := f) (f2 := f2_) (fun x_ hx_ => hf_ x_ (by cases hi <;> simp_all [Op.operands]))]; exact hhi) h0 h1 h2
theorem EA_slice_ref {t e : TypeId} {x : Operand} {lo hi : Option Operand} {i j : Int} {l : Lay} {b0 off m : Nat} (hx : ev f x = .ref l b0 off m) (ht : tyElem P t = some e) (hs : tySize P e = some l.len) (hlo : loV (lo.map (ev f)) = some i) (hhi : hiV m (hi.map (ev f)) = some j)
    (h0 : 0 ≤ i) (h1 : i < j) (h2 : j ≤ m) : EvA P n ⟨dst, .slice t x lo hi none, ty, pos, after, g⟩ f L (.ref l b0 (off + i.toNat) (j.toNat - i.toNat)) := fun C_ f2_ hf_ L2_ hL_ => Ev_slice_ref ((hf_ x (by simp [Op.operands, Call.operands])).trans hx) ht hs (by rw [map_congr (f := f) (f2 := f2_) (fun x_ hx_ => hf_ x_ (by cases lo <;> simp_all [Op.operands]))]; exact hlo) (by rw [map_congr (f := f) (f2 := f2_) (fun x_ hx_ => hf_ x_ (by cases hi <;> simp_all [Op.operands]))]; exact hhi) h0 h1 h2
theorem EA_slice_ref0 {t e : TypeId} {x : Operand} {lo hi : Option Operand} {i : Int} {l : Lay} {b0 off m : Nat} (hx : ev f x = .ref l b0 off m) (ht : tyElem P t = some e) (hs : tySize P e = some l.len) (hlo : loV (lo.map (ev f)) = some i) (hhi : hiV m (hi.map (ev f)) = some i)
    (h0 : 0 ≤ i) (h2 : i ≤ m) : EvA P n ⟨dst, .slice t x lo hi none, ty, pos, after, g⟩ f L (.d (.sl l [])) := fun C_ f2_ hf_ L2_ hL_ => Ev_slice_ref0 ((hf_ x (by simp [Op.operands, Call.operands])).trans hx) ht hs (by rw [map_congr (f := f) (f2 := f2_) (fun x_ hx_ => hf_ x_ (by cases lo <;> simp_all [Op.operands]))]; exact hlo) (by rw [map_congr (f := f) (f2 := f2_) (fun x_ hx_ => hf_ x_ (by cases hi <;> simp_all [Op.operands]))]; exact hhi) h0 h2
theorem EA_extract {x : Operand} {vs : List V} {j : Nat} {v : V} (hx : ev f x = .tup vs) (hj : vs[j]? = some v) : EvA P n ⟨dst, .extract x j, ty, pos, after, g⟩ f L v := fun C_ f2_ hf_ L2_ hL_ => Ev_extract ((hf_ x (by simp [Op.operands, Call.operands])).trans hx) hj
theorem EA_func {k : FuncId} {caps : Array Operand} {ds : List D} (ha : caps.toList.map (ev f) = ds.map V.d) (hcaps : ds.all (fun d => !d.isAgg) = true) : EvA P n ⟨dst, .makeFunc (.func k) #[] caps, ty, pos, after, none⟩ f L (.d (.fn k ds)) :=
  fun C_ f2_ hf_ L2_ hL_ => Ev_func (by rw [maps_congr fun x hx => hf_ x (by simpa [Op.operands] using hx)]; exact ha) hcaps
theorem EA_funcV {k : FuncId} {caps : Array Operand} {vs : List V} (ha : caps.toList.map (ev f) = vs) (hcaps : vs.all (fun v => v.known && !v.isAgg) = true) : EvA P n ⟨dst, .makeFunc (.func k) #[] caps, ty, pos, after, none⟩ f L (.fn k vs) :=
  fun C_ f2_ hf_ L2_ hL_ => Ev_funcV (by rw [maps_congr fun x hx => hf_ x (by simpa [Op.operands] using hx)]; exact ha) hcaps
end

section
variable {P : Program} {C : Cx} {n : Nat} {ops : Array Oper} {Q : AQ} {f : Fr} {L : Hp} {dst : Option Tmp} {op : Op} {ty : TypeId} {pos : String} {after : Array Edge} {i : Nat} {r : List Nat} {v : V}

theorem ev_looks {f' : Fr} {o : Oper} (h : ∀ s ∈ o.looksAt ops, f' s = f s) : ∀ x ∈ o.op.operands, ev f' x = ev f x := by
  intro x hx
  cases x with
  | tmp t =>
    refine h t ?_
    unfold Oper.looksAt
    refine List.mem_append_left _ (List.mem_filterMap.2 ⟨.tmp t, by simpa using hx, rfl⟩)
  | _ => rfl

theorem runOr_none {o : Oper} (hg : o.guard = none) {a : Act} {w : World} {K : Act → World → Prop} {Qc : Exit → Act → World → Prop} (h : o.wp P a w K Qc) : runOr P ops o a w K Qc := by
  unfold runOr
  rw [if_pos (by simp [Region.wanted, hg])]
  exact h

theorem wanted_iff {o : Oper} {j s : Nat} {want b : Bool} {a : Act} {w : World} {β : Beta} {S : Nat → Prop} {f' : Fr} {L' : Hp} (hg : o.guard = some (j, want)) (hj : (ops[j]?).bind (·.dst) = some s) (hs : Nat.blt s n = true) (hr : Rel C n f' L' a w β S) (hv : f' s = bl b) :
    Region.wanted o (yielded ops a.tmps) = (b == want) := by
  have hsn : s < a.tmps.size := by rw [hr.sz]; simpa [Nat.blt_eq] using hs
  have h1 := hr.fr s
  rw [hv] at h1
  have h1 := (VR_c.1 h1).1
  have h2 : a.tmps[s]? = some (.bool b) := by
    rw [Array.getD_eq_getD_getElem?] at h1
    rw [Array.getElem?_eq_getElem hsn] at h1 ⊢
    simpa using h1
  cases b <;> cases want <;> simp [Region.wanted, hg, yielded, hj, h2]

theorem looks_guard {o : Oper} {j s : Nat} {want : Bool} (hg : o.guard = some (j, want)) (hj : (ops[j]?).bind (·.dst) = some s) : s ∈ o.looksAt ops := by
  unfold Oper.looksAt
  refine List.mem_append_right _ ?_
  rw [hg]
  simp only [hj]
  simp

/-- A step that is passed by. -/
theorem DT_f {j s : Nat} {want : Bool} (ho : ops[i]? = some ⟨dst, op, ty, pos, after, some (j, want)⟩) (hj : (ops[j]?).bind (·.dst) = some s) (hs : Nat.blt s n = true) (hv : f s = bl (!want)) (hd : dstOk n dst = true) (h : DT P n ops C Q r (updo f dst .any) L) : DT P n ops C Q (i :: r) f L := by
  refine .a ho ?_ h
  intro C hT f' hf L' _ a w β S hr K Qc hK
  have hw := wanted_iff (ops := ops) (o := ⟨dst, op, ty, pos, after, some (j, want)⟩) rfl hj hs hr ((hf s (looks_guard rfl hj)).trans hv)
  unfold runOr
  rw [if_neg (by rw [hw]; cases want <;> simp)]
  exact hK _ _ _ _ (hr.puto (dstOk_spec hd) (VR_any ..))

/-- A step that runs under its guard. -/
theorem DT_t {j s : Nat} {want : Bool} {L2 : Hp} (ho : ops[i]? = some ⟨dst, op, ty, pos, after, some (j, want)⟩) (hj : (ops[j]?).bind (·.dst) = some s) (hs : Nat.blt s n = true) (hv : f s = bl want)
    (hst : StA P n ops ⟨dst, op, ty, pos, after, none⟩ f L v) (h : DT P n ops C Q r (updo f dst v) L) : DT P n ops C Q (i :: r) f L := by
  refine .a ho ?_ h
  intro C hT f' hf L' hL a w β S hr K Qc hK
  have hw := wanted_iff (ops := ops) (o := ⟨dst, op, ty, pos, after, some (j, want)⟩) rfl hj hs hr ((hf s (looks_guard rfl hj)).trans hv)
  have hf2 : ∀ s ∈ (⟨dst, op, ty, pos, after, none⟩ : Oper).looksAt ops, f' s = f s := fun s hs => hf s (by
    unfold Oper.looksAt at hs ⊢
    simp only [List.append_nil] at hs
    exact List.mem_append_left _ hs)
  have := hst C hT f' hf2 L' hL a w β S hr K Qc hK
  unfold runOr at this ⊢
  rw [if_pos (by rw [hw]; simp)]
  rw [if_pos (by simp [Region.wanted])] at this
  exact this

theorem StA_ev (he : EvA P n ⟨dst, op, ty, pos, after, none⟩ f L v) (hd : dstOk n dst = true) : StA P n ops ⟨dst, op, ty, pos, after, none⟩ f L v := by
  intro C hT f' hf L' hL a w β S hr K Qc hK
  refine runOr_none rfl ?_
  obtain ⟨x, hx, hv⟩ := he C f' (ev_looks hf) L' hL a w β S hr
  unfold Oper.wp
  rw [hx, Oper.upon_value]
  exact hK _ _ _ _ (hr.puto (dstOk_spec hd) hv)

theorem DT_ev (ho : ops[i]? = some ⟨dst, op, ty, pos, after, none⟩) (he : EvA P n ⟨dst, op, ty, pos, after, none⟩ f L v) (hd : dstOk n dst = true) (h : DT P n ops C Q r (updo f dst v) L) : DT P n ops C Q (i :: r) f L :=
  .a ho (StA_ev he hd) h
theorem DT_evt {j s : Nat} {want : Bool} (ho : ops[i]? = some ⟨dst, op, ty, pos, after, some (j, want)⟩) (hj : (ops[j]?).bind (·.dst) = some s) (hs : Nat.blt s n = true) (hv : f s = bl want) (he : EvA P n ⟨dst, op, ty, pos, after, none⟩ f L v) (hd : dstOk n dst = true) (h : DT P n ops C Q r (updo f dst v) L) : DT P n ops C Q (i :: r) f L :=
  DT_t (L2 := L) ho hj hs hv (StA_ev he hd) h

theorem StA_fcall {x : Operand} {args : Array Operand} {ts : Array TypeId} {k : FuncId} {ds caps rs : List D} (hx : ev f x = .d (.fn k caps)) (hcaps : caps.all (fun d => !d.isAgg) = true) (hc : Callable P k) (hp : PCall P k (ds ++ caps) (· = rs)) (ha : args.toList.map (ev f) = ds.map V.d)
    (hd : dstOk n dst = true) : StA P n ops ⟨dst, callV x args ts, ty, pos, after, none⟩ f L (retV rs) := by
  intro C hT f' hf L' hL a w β S hr K Qc hK
  have hev := ev_looks hf
  refine runOr_none rfl ?_
  have hx' : ev f' x = .d (.fn k caps) := (hev x (by simp [Op.operands, Call.operands])).trans hx
  have ha' : args.toList.map (ev f') = ds.map V.d := by
    rw [maps_congr fun y hy => hev y (by simp [Op.operands, Call.operands]; exact .inr (by simpa using hy))]
    exact ha
  have hv := rel_ev hr x
  rw [hx'] at hv
  obtain ⟨xs, h1, h2⟩ := VR_fn hv
  unfold Oper.wp
  rw [call_run hc h1, Oper.upon_enter]
  have hall := (args_RD hr args.toList ds ha').append (caps_RD caps xs hcaps h2)
  have heq : (args.map a.eval ++ xs.toArray) = (args.toList.map a.eval ++ xs).toArray := by simp
  rw [heq]
  refine (hp w S _ hr.hp.fz (hT.tab hr) hall).mono ?_
  rintro e w' ⟨y, rs', S', rfl, q1, q2, q3, q4, q5⟩
  subst q1
  exact hK _ _ _ _ ((hr.called q5 q3 q4).puto (dstOk_spec hd) (VR_retV q2))
theorem DT_fcall0 {x : Operand} {args : Array Operand} {ts : Array TypeId} {k : FuncId} {ds rs : List D} (ho : ops[i]? = some ⟨dst, callV x args ts, ty, pos, after, none⟩) (hx : ev f x = .d (.fn k [])) (hc : Callable P k) (hp : PCall P k ds (· = rs)) (ha : args.toList.map (ev f) = ds.map V.d)
    (hd : dstOk n dst = true) (h : DT P n ops C Q r (updo f dst (retV rs)) L) : DT P n ops C Q (i :: r) f L :=
  .a ho (StA_fcall hx rfl hc (by rw [List.append_nil]; exact hp) ha hd) h
theorem DT_fcall {x : Operand} {args : Array Operand} {ts : Array TypeId} {k : FuncId} {ds caps rs : List D} (ho : ops[i]? = some ⟨dst, callV x args ts, ty, pos, after, none⟩) (hx : ev f x = .d (.fn k caps)) (hcaps : caps.all (fun d => !d.isAgg) = true) (hc : Callable P k) (hp : PCall P k (ds ++ caps) (· = rs)) (ha : args.toList.map (ev f) = ds.map V.d)
    (hd : dstOk n dst = true) (h : DT P n ops C Q r (updo f dst (retV rs)) L) : DT P n ops C Q (i :: r) f L :=
  .a ho (StA_fcall hx hcaps hc hp ha hd) h
theorem DT_fcall0t {x : Operand} {args : Array Operand} {ts : Array TypeId} {k : FuncId} {ds rs : List D} {j s : Nat} {want : Bool} (ho : ops[i]? = some ⟨dst, callV x args ts, ty, pos, after, some (j, want)⟩) (hj : (ops[j]?).bind (·.dst) = some s) (hs : Nat.blt s n = true) (hv : f s = bl want) (hx : ev f x = .d (.fn k [])) (hc : Callable P k) (hp : PCall P k ds (· = rs)) (ha : args.toList.map (ev f) = ds.map V.d)
    (hd : dstOk n dst = true) (h : DT P n ops C Q r (updo f dst (retV rs)) L) : DT P n ops C Q (i :: r) f L :=
  DT_t (L2 := L) ho hj hs hv (StA_fcall hx rfl hc (by rw [List.append_nil]; exact hp) ha hd) h

/-- A Bool of a slot, one way or the other. -/
theorem DT_bool (s : Nat) {b : Bool} (hs : f s = bl b) (ht : b = true → DT P n ops C Q r (upd f s (bl true)) L) (hf : b = false → DT P n ops C Q r (upd f s (bl false)) L) : DT P n ops C Q r f L := by
  cases b with
  | true => have := ht rfl; rwa [upd_same hs] at this
  | false => have := hf rfl; rwa [upd_same hs] at this
end
end Go.Eng

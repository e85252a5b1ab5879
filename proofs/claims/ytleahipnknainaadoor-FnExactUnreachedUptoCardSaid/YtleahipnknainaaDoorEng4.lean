/- The engine: operations on plain values. -/
import Derived.Test.YtleahipnknainaaDoorEng3
import Derived.WalkSpells
import Derived.Laws.Strings
set_option linter.unusedVariables false
set_option linter.unusedSimpArgs false
namespace Go.Eng

section
variable {P : Program} {C : Cx} {n : Nat} {f : Fr} {L : Hp} {dst : Option Tmp} {ty : TypeId} {pos : String} {after : Array Edge} {g : Option (Nat × Bool)}

theorem Ev_move {x : Operand} : Ev P C n ⟨dst, .move x, ty, pos, after, g⟩ f L (ev f x) := fun a w β S hr => ⟨_, rfl, rel_ev hr x⟩
theorem Ev_assign {x : Operand} : Ev P C n ⟨dst, .assign x, ty, pos, after, g⟩ f L (ev f x) := fun a w β S hr => ⟨_, rfl, rel_ev hr x⟩

theorem Ev_pick {c x y : Operand} {b : Bool} (hc : ev f c = bl b) : Ev P C n ⟨dst, .pick c x y, ty, pos, after, g⟩ f L (bif b then ev f x else ev f y) := by
  intro a w β S hr
  have := eval_bool hr hc
  refine ⟨if b then a.eval x else a.eval y, by simp [execOp, this, asBool], ?_⟩
  cases b
  · exact rel_ev hr y
  · exact rel_ev hr x

/-- An operation on plain values whose run is known. -/
theorem Ev_run {o : Oper} {z : Value} (hz : Value.scalar z = true) (h : ∀ a w β S, Rel C n f L a w β S → (execOp a.eval o).run P w = .ok (.value z) w) : Ev P C n o f L (.d (.c z)) :=
  fun a w β S hr => ⟨z, h a w β S hr, VR_c.2 ⟨rfl, hz⟩⟩

theorem Ev_bin {op : BinOp} {t ty' : TypeId} {x y : Operand} {u v z : Value} (hx : ev f x = .d (.c u)) (hy : ev f y = .d (.c v)) (hz : Value.scalar z = true)
    (hrun : ∀ w, (do eqGuard op t x y u v; binOp op t u v : Sem Value).run P w = .ok z w) : Ev P C n ⟨dst, .binOp op t x y ty', ty, pos, after, g⟩ f L (.d (.c z)) := by
  refine Ev_run hz fun a w β S hr => ?_
  have h1 := eval_c hr hx
  have h2 := eval_c hr hy
  have h3 := hrun w
  show ((do pure (Next.value (← (do eqGuard op t x y (a.eval x) (a.eval y); binOp op t (a.eval x) (a.eval y) : Sem Value))) : Sem Next)).run P w = _
  rw [h1, h2, Sem.run_bind, h3]
  rfl

theorem Ev_add {t ty' : TypeId} {x y : Operand} {k : IntKind} {u v : Int} (hx : ev f x = .d (.c (.int k u))) (hy : ev f y = .d (.c (.int k v))) (z : Int) (hz : k.wrap (u + v) = z) :
    Ev P C n ⟨dst, .binOp .add t x y ty', ty, pos, after, g⟩ f L (.d (.c (.int k z))) :=
  Ev_bin hx hy rfl fun w => by rw [eqGuard_add, binOp_add]; simp [Op.intArith, hz, Result.andThen]
theorem Ev_sub {t ty' : TypeId} {x y : Operand} {k : IntKind} {u v : Int} (hx : ev f x = .d (.c (.int k u))) (hy : ev f y = .d (.c (.int k v))) (z : Int) (hz : k.wrap (u - v) = z) :
    Ev P C n ⟨dst, .binOp .sub t x y ty', ty, pos, after, g⟩ f L (.d (.c (.int k z))) :=
  Ev_bin hx hy rfl fun w => by rw [eqGuard_sub, binOp_sub]; simp [Op.intArith, hz, Result.andThen]
theorem Ev_mul {t ty' : TypeId} {x y : Operand} {k : IntKind} {u v : Int} (hx : ev f x = .d (.c (.int k u))) (hy : ev f y = .d (.c (.int k v))) (z : Int) (hz : k.wrap (u * v) = z) :
    Ev P C n ⟨dst, .binOp .mul t x y ty', ty, pos, after, g⟩ f L (.d (.c (.int k z))) :=
  Ev_bin hx hy rfl fun w => by rw [eqGuard_mul, binOp_mul]; simp [Op.intArith, hz, Result.andThen]
theorem Ev_quo {t ty' : TypeId} {x y : Operand} {k : IntKind} {u v : Int} (hx : ev f x = .d (.c (.int k u))) (hy : ev f y = .d (.c (.int k v))) (h0 : v ≠ 0) (z : Int) (hz : k.wrap (u.tdiv v) = z) :
    Ev P C n ⟨dst, .binOp .quo t x y ty', ty, pos, after, g⟩ f L (.d (.c (.int k z))) :=
  Ev_bin hx hy rfl fun w => by rw [eqGuard_quo, binOp_quo]; simp [Op.intDiv, h0, hz, Result.andThen]
theorem Ev_rem {t ty' : TypeId} {x y : Operand} {k : IntKind} {u v : Int} (hx : ev f x = .d (.c (.int k u))) (hy : ev f y = .d (.c (.int k v))) (h0 : v ≠ 0) :
    Ev P C n ⟨dst, .binOp .rem t x y ty', ty, pos, after, g⟩ f L (.d (.c (.int k (u.tmod v)))) :=
  Ev_bin hx hy rfl fun w => by rw [eqGuard_rem, binOp_rem]; simp [Op.intDiv, h0, Result.andThen]
theorem Ev_shl {t ty' : TypeId} {x y : Operand} {k k' : IntKind} {u v : Int} (hx : ev f x = .d (.c (.int k u))) (hy : ev f y = .d (.c (.int k' v))) (h0 : ¬ v < 0) (z : Int) (hz : k.wrap (u * 2 ^ (min v.toNat k.bits)) = z) :
    Ev P C n ⟨dst, .binOp .shl t x y ty', ty, pos, after, g⟩ f L (.d (.c (.int k z))) :=
  Ev_bin hx hy rfl fun w => by rw [eqGuard_shl, binOp_shl]; simp [Op.shift, h0, hz, Result.andThen]
theorem Ev_shr {t ty' : TypeId} {x y : Operand} {k k' : IntKind} {u v : Int} (hx : ev f x = .d (.c (.int k u))) (hy : ev f y = .d (.c (.int k' v))) (h0 : ¬ v < 0) :
    Ev P C n ⟨dst, .binOp .shr t x y ty', ty, pos, after, g⟩ f L (.d (.c (.int k (u.fdiv (2 ^ (min v.toNat k.bits)))))) :=
  Ev_bin hx hy rfl fun w => by rw [eqGuard_shr, binOp_shr]; simp [Op.shift, h0, Result.andThen]
theorem Ev_and {t ty' : TypeId} {x y : Operand} {k : IntKind} {u v : Int} (hx : ev f x = .d (.c (.int k u))) (hy : ev f y = .d (.c (.int k v))) :
    Ev P C n ⟨dst, .binOp .and t x y ty', ty, pos, after, g⟩ f L (.d (.c (.int k (k.wrap (BitVec.ofInt k.bits u &&& BitVec.ofInt k.bits v).toNat)))) :=
  Ev_bin hx hy rfl fun w => by rw [eqGuard_and, binOp_and]; simp [Op.intBits, Result.andThen]
theorem Ev_xor {t ty' : TypeId} {x y : Operand} {k : IntKind} {u v : Int} (hx : ev f x = .d (.c (.int k u))) (hy : ev f y = .d (.c (.int k v))) :
    Ev P C n ⟨dst, .binOp .xor t x y ty', ty, pos, after, g⟩ f L (.d (.c (.int k (k.wrap (BitVec.ofInt k.bits u ^^^ BitVec.ofInt k.bits v).toNat)))) :=
  Ev_bin hx hy rfl fun w => by rw [eqGuard_xor, binOp_xor]; simp [Op.intBits, Result.andThen]

theorem Ev_eql {t ty' : TypeId} {x y : Operand} {k : IntKind} {u v : Int} (hx : ev f x = .d (.c (.int k u))) (hy : ev f y = .d (.c (.int k v))) :
    Ev P C n ⟨dst, .binOp .eql t x y ty', ty, pos, after, g⟩ f L (bl (decide (u = v))) :=
  Ev_bin hx hy rfl fun w => by rw [eqGuard_at_int, binOp_eql]; simp [Result.andThen, BEq.beq, instBEqOfDecidableEq]
theorem Ev_neq {t ty' : TypeId} {x y : Operand} {k : IntKind} {u v : Int} (hx : ev f x = .d (.c (.int k u))) (hy : ev f y = .d (.c (.int k v))) :
    Ev P C n ⟨dst, .binOp .neq t x y ty', ty, pos, after, g⟩ f L (bl (!decide (u = v))) :=
  Ev_bin hx hy rfl fun w => by rw [eqGuard_at_int, binOp_neq]; simp [Result.andThen, bne, BEq.beq, instBEqOfDecidableEq]
theorem Ev_lss {t ty' : TypeId} {x y : Operand} {k : IntKind} {u v : Int} (hx : ev f x = .d (.c (.int k u))) (hy : ev f y = .d (.c (.int k v))) :
    Ev P C n ⟨dst, .binOp .lss t x y ty', ty, pos, after, g⟩ f L (bl (decide (u < v))) :=
  Ev_bin hx hy rfl fun w => by rw [eqGuard_lss, binOp_lss]; simp [Result.andThen]
theorem Ev_leq {t ty' : TypeId} {x y : Operand} {k : IntKind} {u v : Int} (hx : ev f x = .d (.c (.int k u))) (hy : ev f y = .d (.c (.int k v))) :
    Ev P C n ⟨dst, .binOp .leq t x y ty', ty, pos, after, g⟩ f L (bl (decide (u ≤ v))) :=
  Ev_bin hx hy rfl fun w => by rw [eqGuard_leq, binOp_leq]; simp [Result.andThen]
theorem Ev_gtr {t ty' : TypeId} {x y : Operand} {k : IntKind} {u v : Int} (hx : ev f x = .d (.c (.int k u))) (hy : ev f y = .d (.c (.int k v))) :
    Ev P C n ⟨dst, .binOp .gtr t x y ty', ty, pos, after, g⟩ f L (bl (decide (v < u))) :=
  Ev_bin hx hy rfl fun w => by rw [eqGuard_gtr, binOp_gtr]; simp [Result.andThen]
theorem Ev_geq {t ty' : TypeId} {x y : Operand} {k : IntKind} {u v : Int} (hx : ev f x = .d (.c (.int k u))) (hy : ev f y = .d (.c (.int k v))) :
    Ev P C n ⟨dst, .binOp .geq t x y ty', ty, pos, after, g⟩ f L (bl (decide (v ≤ u))) :=
  Ev_bin hx hy rfl fun w => by rw [eqGuard_geq, binOp_geq]; simp [Result.andThen]

theorem toList_eq (a b : ByteArray) : (a.toList == b.toList) = decide (a = b) := by
  by_cases h : a = b
  · subst h; simp
  · have : a.toList ≠ b.toList := by
      intro e
      apply h
      have e' : a.data.toList = b.data.toList := by
        rwa [ByteArray.toList_eq, ByteArray.toList_eq] at e
      cases a; cases b
      simp at e'
      simp [e']
    simp [h, this]

theorem Ev_seql {t ty' : TypeId} {x y : Operand} {u v : ByteArray} (hx : ev f x = st u) (hy : ev f y = st v) :
    Ev P C n ⟨dst, .binOp .eql t x y ty', ty, pos, after, g⟩ f L (bl (decide (u = v))) :=
  Ev_bin hx hy rfl fun w => by rw [eqGuard_at_string]; simp [binOp, Op.stringOp, Result.andThen, ← toList_eq]
theorem Ev_sneq {t ty' : TypeId} {x y : Operand} {u v : ByteArray} (hx : ev f x = st u) (hy : ev f y = st v) :
    Ev P C n ⟨dst, .binOp .neq t x y ty', ty, pos, after, g⟩ f L (bl (!decide (u = v))) :=
  Ev_bin hx hy rfl fun w => by rw [eqGuard_at_string]; simp only [binOp, Op.stringOp, toList_eq]; simp [Result.andThen]
def sless (u v : ByteArray) : Bool := Op.bytesLess u.toList v.toList
theorem Ev_slss {t ty' : TypeId} {x y : Operand} {u v : ByteArray} (hx : ev f x = st u) (hy : ev f y = st v) :
    Ev P C n ⟨dst, .binOp .lss t x y ty', ty, pos, after, g⟩ f L (bl (sless u v)) :=
  Ev_bin hx hy rfl fun w => by rw [eqGuard_at_string]; simp [binOp, Op.stringOp, Result.andThen, sless]
theorem Ev_sgtr {t ty' : TypeId} {x y : Operand} {u v : ByteArray} (hx : ev f x = st u) (hy : ev f y = st v) :
    Ev P C n ⟨dst, .binOp .gtr t x y ty', ty, pos, after, g⟩ f L (bl (!(sless u v || decide (u = v)))) :=
  Ev_bin hx hy rfl fun w => by rw [eqGuard_at_string]; simp only [binOp, Op.stringOp, toList_eq]; simp [Result.andThen, sless]
theorem Ev_sadd {t ty' : TypeId} {x y : Operand} {u v : ByteArray} (hx : ev f x = st u) (hy : ev f y = st v) (hb : u.size + v.size ≤ 4611686018427387904) :
    Ev P C n ⟨dst, .binOp .add t x y ty', ty, pos, after, g⟩ f L (st (u ++ v)) :=
  Ev_bin hx hy rfl fun w => by
    have : ¬ (((u.size + v.size : Nat) : Int) > IntKind.i64.max) := by rw [IntKind.max_i64]; omega
    rw [eqGuard_add]; simp only [binOp, Op.stringOp, if_neg this]; simp [Result.andThen]

theorem Ev_not {t : TypeId} {x : Operand} {b : Bool} (hx : ev f x = bl b) : Ev P C n ⟨dst, .unOp .not t x, ty, pos, after, g⟩ f L (bl (!b)) :=
  Ev_run rfl fun a w β S hr => by simp [execOp, eval_bool hr hx, Op.unary]
theorem Ev_neg {t : TypeId} {x : Operand} {k : IntKind} {u : Int} (hx : ev f x = .d (.c (.int k u))) (z : Int) (hz : k.wrap (-u) = z) : Ev P C n ⟨dst, .unOp .neg t x, ty, pos, after, g⟩ f L (.d (.c (.int k z))) :=
  Ev_run rfl fun a w β S hr => by simp [execOp, eval_c hr hx, Op.unary, Op.intArith, Int.zero_sub, hz]

/-- A type's description, as far as it matters here. -/
def tyInt (P : Program) (t : TypeId) : Option IntKind := match P.underlying t with | some (.int k) => some k | _ => none
def tyElem (P : Program) (t : TypeId) : Option TypeId := match P.underlying t with | some (.slice e) => some e | _ => none
def tySize (P : Program) (t : TypeId) : Option Nat := (P.info? t).map (·.size)
def tyAgg (P : Program) (t : TypeId) : Option Bool := match P.underlying t with | some (.struct _) => some true | some (.array _ _) => some true | some _ => some false | none => none
def tyField (P : Program) (t : TypeId) (j : Nat) : Option (Nat × Bool) := match P.underlying t with
  | some (.struct fs) => match fs[j]? with
    | some fd => match P.info? fd.type with
      | some i => some (fd.offset, i.size != 0)
      | none => none
    | none => none
  | _ => none
def tyStr (P : Program) (t : TypeId) : Bool := match P.underlying t with | some .string => true | _ => false
def tyZero (P : Program) (t : TypeId) : Option (Option Value) := (P.info? t).map (·.zero)
def tyBytes (P : Program) (t : TypeId) : Option Nat := (P.info? t).map (·.bytes)

theorem Ev_conv_int {s d : TypeId} {x : Operand} {k k' : IntKind} {u : Int} (hs : (P.underlying s).isSome = true) (hd : tyInt P d = some k') (hx : ev f x = .d (.c (.int k u))) (z : Int) (hz : k'.wrap u = z) :
    Ev P C n ⟨dst, .convert s d x, ty, pos, after, g⟩ f L (.d (.c (.int k' z))) :=
  Ev_run rfl fun a w β S hr => by
    obtain ⟨ds, hs⟩ := Option.isSome_iff_exists.1 hs
    have hd' : P.underlying d = some (.int k') := by
      unfold tyInt at hd
      split at hd
      · injection hd with hd; subst hd; assumption
      · cases hd
    simp only [execOp, eval_c hr hx]
    simp only [convert, Sem.run_bind, run_underlying hs, run_underlying hd', Result.andThen]
    cases ds <;> simp [Conv.intToInt, hz, Result.andThen]
theorem Ev_conv_str {s d : TypeId} {x : Operand} {u : ByteArray} (hs : (P.underlying s).isSome = true) (hd : tyStr P d = true) (hx : ev f x = st u) :
    Ev P C n ⟨dst, .convert s d x, ty, pos, after, g⟩ f L (st u) :=
  Ev_run rfl fun a w β S hr => by
    obtain ⟨ds, hs⟩ := Option.isSome_iff_exists.1 hs
    have hd' : P.underlying d = some .string := by
      unfold tyStr at hd
      split at hd
      · assumption
      · cases hd
    simp only [execOp, eval_c hr hx]
    simp only [convert, Sem.run_bind, run_underlying hs, run_underlying hd', Result.andThen]
    cases ds <;> simp [Result.andThen]

theorem elem_some {t e : TypeId} (h : tyElem P t = some e) : P.underlying t = some (.slice e) := by
  unfold tyElem at h
  split at h
  · injection h with h; subst h; assumption
  · cases h

abbrev callB (b : Builtin) (args : Array Operand) (ts : Array TypeId) : Op := .call { callee := .builtin b, args := args, argTypes := ts }

theorem run_len_s {t e ty : TypeId} (ht : P.underlying t = some (.slice e)) (A : Option Addr) (m c : Nat) (w : World) : (Builtin.len_ #[t] ty #[.slice A m c]).run P w = .ok (.int .i64 m) w := by
  simp [Builtin.len_, run_underlying ht, goInt, Result.andThen]

theorem Ev_len_of {t e : TypeId} {x : Operand} {m : Nat} (ht : tyElem P t = some e) (hx : ∀ a w β S, Rel C n f L a w β S → ∃ A c, a.eval x = .slice A m c) :
    Ev P C n ⟨dst, callB .len #[x] #[t], ty, pos, after, g⟩ f L (i64 m) :=
  Ev_run rfl fun a w β S hr => by
    obtain ⟨A, c, hx⟩ := hx a w β S hr
    simp [execOp, resolve, invoke, builtin, hx, run_len_s (elem_some ht), Result.andThen]

theorem VR_sl {β : Beta} {S : Nat → Prop} {w : World} {l : Lay} {xs : List D} {v : Value} (h : VR β S w (.d (.sl l xs)) v) :
    ∃ A cap, v = .slice A xs.length cap ∧ xs.length ≤ cap ∧ xs.length ≤ lim ∧ (xs.length = 0 ∨ ∃ b off ds, A = some ⟨b, off, none⟩ ∧ S b ∧ DCs S w (List.replicate xs.length l) xs ds ∧ cellsAt w b off ds) := by
  rcases h with h | ⟨h, e⟩
  · cases h
  · simp only [VC, DC] at h
    obtain ⟨A, m, cap, h1, rfl, h3, h4, h5⟩ := h
    have hv : isAggV v = false := by simpa [V.isAgg, D.isAgg] using e.symm
    have : v.cells = #[v] := by cases v <;> first | rfl | simp [isAggV] at hv
    rw [this] at h1
    simp at h1
    exact ⟨A, cap, h1, h3, h4, h5⟩
theorem VR_sl_mk {β : Beta} {S : Nat → Prop} {w : World} {l : Lay} {xs : List D} {A : Option Addr} {cap : Nat} (h3 : xs.length ≤ cap) (h4 : xs.length ≤ lim)
    (h5 : xs.length = 0 ∨ ∃ b off ds, A = some ⟨b, off, none⟩ ∧ S b ∧ DCs S w (List.replicate xs.length l) xs ds ∧ cellsAt w b off ds) : VR β S w (.d (.sl l xs)) (.slice A xs.length cap) := by
  refine .inr ⟨?_, rfl⟩
  simp only [VC, DC]
  exact ⟨A, _, cap, rfl, rfl, h3, h4, h5⟩
theorem one_cell {β : Beta} {S : Nat → Prop} {w : World} {v : V} {x : Value} (h : VR0 β S w v x) (hn : v ≠ .any) (ha : v.isAgg = false) : VC β S w v [x] := by
  rcases h with h | ⟨h, e⟩
  · exact absurd h hn
  · have : x.cells = #[x] := by cases x <;> first | rfl | (rw [ha] at e; simp [isAggV] at e)
    rwa [this] at h
theorem VR_ref {β : Beta} {S : Nat → Prop} {w : World} {l : Lay} {i off m : Nat} {v : Value} (h : VR β S w (.ref l i off m) v) :
    (β i = some none ∧ v = .slice none 0 0 ∧ off = 0 ∧ m = 0) ∨ ∃ b Cp, β i = some (some (b, Cp)) ∧ v = .slice (some ⟨b, off * l.len, none⟩) m (Cp - off) ∧ off + m ≤ Cp := by
  have := one_cell h (by simp) rfl
  simp only [VC] at this
  simpa using this
theorem VR_ref_mk {β : Beta} {S : Nat → Prop} {w : World} {l : Lay} {i off m : Nat} {v : Value} (h : (β i = some none ∧ v = .slice none 0 0 ∧ off = 0 ∧ m = 0) ∨ ∃ b Cp, β i = some (some (b, Cp)) ∧ v = .slice (some ⟨b, off * l.len, none⟩) m (Cp - off) ∧ off + m ≤ Cp) :
    VR β S w (.ref l i off m) v := by
  refine .inr ⟨?_, ?_⟩
  · have : v.cells.toList = [v] := by rcases h with ⟨_, rfl, _⟩ | ⟨_, _, _, rfl, _⟩ <;> rfl
    rw [this]
    simp only [VC]
    simpa using h
  · rcases h with ⟨_, rfl, _⟩ | ⟨_, _, _, rfl, _⟩ <;> rfl
theorem VR_ptr {β : Beta} {S : Nat → Prop} {w : World} {l : Lay} {i k : Nat} {p : List Nat} {v : Value} (h : VR β S w (.ptr l i k p) v) :
    ∃ b Cp o l', β i = some (some (b, Cp)) ∧ l.at? p = some (o, l') ∧ v = .pointer (some ⟨b, k * l.len + o, none⟩) := by
  have := one_cell h (by simp) rfl
  simp only [VC] at this
  simpa using this
theorem VR_ptr_mk {β : Beta} {S : Nat → Prop} {w : World} {l : Lay} {i k : Nat} {p : List Nat} {b Cp o : Nat} {l' : Lay} (h1 : β i = some (some (b, Cp))) (h2 : l.at? p = some (o, l')) : VR β S w (.ptr l i k p) (.pointer (some ⟨b, k * l.len + o, none⟩)) := by
  refine .inr ⟨?_, rfl⟩
  simp only [VC]
  exact ⟨b, Cp, o, l', h1, h2, rfl⟩
theorem VR_rp {β : Beta} {S : Nat → Prop} {w : World} {l : Lay} {x : D} {p : List Nat} {v : Value} (h : VR β S w (.d (.rp l x p)) v) :
    ∃ b off ds o l', l.at? p = some (o, l') ∧ v = .pointer (some ⟨b, off + o, none⟩) ∧ S b ∧ ds.length = l.len ∧ DC S w x ds ∧ cellsAt w b off ds := by
  have := one_cell h (by simp) rfl
  simp only [VC, DC] at this
  simpa using this
theorem VR_rp_mk {β : Beta} {S : Nat → Prop} {w : World} {l : Lay} {x : D} {p : List Nat} {b off o : Nat} {ds : List Value} {l' : Lay} (h1 : l.at? p = some (o, l')) (h2 : S b) (h3 : ds.length = l.len) (h4 : DC S w x ds) (h5 : cellsAt w b off ds) :
    VR β S w (.d (.rp l x p)) (.pointer (some ⟨b, off + o, none⟩)) := by
  refine .inr ⟨?_, rfl⟩
  simp only [VC, DC]
  exact ⟨b, off, ds, o, l', h1, rfl, h2, h3, h4, h5⟩

theorem Ev_len_sl {t e : TypeId} {x : Operand} {l : Lay} {xs : List D} (ht : tyElem P t = some e) (hx : ev f x = .d (.sl l xs)) : Ev P C n ⟨dst, callB .len #[x] #[t], ty, pos, after, g⟩ f L (i64 xs.length) :=
  Ev_len_of ht fun a w β S hr => by
    have := rel_ev hr x
    rw [hx] at this
    obtain ⟨A, cap, h, _⟩ := VR_sl this
    exact ⟨A, cap, h⟩
theorem Ev_len_ref {t e : TypeId} {x : Operand} {l : Lay} {i off m : Nat} (ht : tyElem P t = some e) (hx : ev f x = .ref l i off m) : Ev P C n ⟨dst, callB .len #[x] #[t], ty, pos, after, g⟩ f L (i64 m) :=
  Ev_len_of ht fun a w β S hr => by
    have := rel_ev hr x
    rw [hx] at this
    rcases VR_ref this with ⟨_, h, _, rfl⟩ | ⟨b, Cp, _, h, _⟩
    · exact ⟨_, _, h⟩
    · exact ⟨_, _, h⟩
theorem Ev_len_nil {t e : TypeId} {x : Operand} (ht : tyElem P t = some e) (hx : ev f x = nilsl) : Ev P C n ⟨dst, callB .len #[x] #[t], ty, pos, after, g⟩ f L (i64 0) :=
  Ev_len_of ht fun a w β S hr => ⟨none, 0, eval_c hr hx⟩
theorem Ev_len_str {t : TypeId} {x : Operand} {s : ByteArray} (ht : tyStr P t = true) (hx : ev f x = st s) : Ev P C n ⟨dst, callB .len #[x] #[t], ty, pos, after, g⟩ f L (i64 s.size) :=
  Ev_run rfl fun a w β S hr => by
    have ht' : P.underlying t = some .string := by
      unfold tyStr at ht
      split at ht
      · assumption
      · cases ht
    simp [execOp, resolve, invoke, builtin, eval_c hr hx, Builtin.len_, run_underlying ht', goInt, Result.andThen]
theorem Ev_min {t u : TypeId} {x y : Operand} {k : IntKind} {a b : Int} (hx : ev f x = .d (.c (.int k a))) (hy : ev f y = .d (.c (.int k b))) : Ev P C n ⟨dst, callB .min #[x, y] #[t, u], ty, pos, after, g⟩ f L (.d (.c (.int k (min a b)))) :=
  Ev_run rfl fun A w β S hr => by
    have : (if b < a then b else a) = min a b := by omega
    simp [execOp, resolve, invoke, builtin, eval_c hr hx, eval_c hr hy, Builtin.min_, Builtin.min2, Result.andThen, this]
theorem Ev_max {t u : TypeId} {x y : Operand} {k : IntKind} {a b : Int} (hx : ev f x = .d (.c (.int k a))) (hy : ev f y = .d (.c (.int k b))) : Ev P C n ⟨dst, callB .max #[x, y] #[t, u], ty, pos, after, g⟩ f L (.d (.c (.int k (max a b)))) :=
  Ev_run rfl fun A w β S hr => by
    have : (if a < b then b else a) = max a b := by omega
    simp [execOp, resolve, invoke, builtin, eval_c hr hx, eval_c hr hy, Builtin.max_, Builtin.max2, Result.andThen, this]
end
end Go.Eng

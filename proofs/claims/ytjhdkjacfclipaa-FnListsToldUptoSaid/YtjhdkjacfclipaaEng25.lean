/- The engine: lengths of lists of our own kinds. -/
import Derived.Test.YtjhdkjacfclipaaTm
import Derived.Test.YtjhdkjacfclipaaEng14
set_option linter.unusedVariables false
namespace Go.Eng
def injCs (cs : List Cl) : List D := cs.map injC
@[simp] theorem injCs_length (cs : List Cl) : (injCs cs).length = cs.length := by simp [injCs]
section
variable {P : Program} {C : Cx} {n : Nat} {f : Fr} {L : Hp} {dst : Option Tmp} {ty : TypeId} {pos : String} {after : Array Edge} {g : Option (Nat × Bool)}
theorem Ev_len_injs {t e : TypeId} {x : Operand} {l : Lay} {ks : List T} (ht : tyElem P t = some e) (hx : ev f x = .d (.sl l (injs ks))) : Ev P C n ⟨dst, callB .len #[x] #[t], ty, pos, after, g⟩ f L (i64 ks.length) := by
  have := Ev_len_sl (P := P) (C := C) (n := n) (L := L) (dst := dst) (ty := ty) (pos := pos) (after := after) (g := g) ht hx
  rwa [injs_length] at this
theorem Ev_len_ints {t e : TypeId} {x : Operand} {l : Lay} {ks : List Int} (ht : tyElem P t = some e) (hx : ev f x = .d (.sl l (ints ks))) : Ev P C n ⟨dst, callB .len #[x] #[t], ty, pos, after, g⟩ f L (i64 ks.length) := by
  have := Ev_len_sl (P := P) (C := C) (n := n) (L := L) (dst := dst) (ty := ty) (pos := pos) (after := after) (g := g) ht hx
  rwa [ints_length] at this
theorem Ev_len_strs {t e : TypeId} {x : Operand} {l : Lay} {ks : List ByteArray} (ht : tyElem P t = some e) (hx : ev f x = .d (.sl l (strs ks))) : Ev P C n ⟨dst, callB .len #[x] #[t], ty, pos, after, g⟩ f L (i64 ks.length) := by
  have := Ev_len_sl (P := P) (C := C) (n := n) (L := L) (dst := dst) (ty := ty) (pos := pos) (after := after) (g := g) ht hx
  rwa [strs_length] at this
theorem EA_len_injs {t e : TypeId} {x : Operand} {l : Lay} {ks : List T} (ht : tyElem P t = some e) (hx : ev f x = .d (.sl l (injs ks))) : EvA P n ⟨dst, callB .len #[x] #[t], ty, pos, after, g⟩ f L (i64 ks.length) := fun C_ f2_ hf_ L2_ hL_ => Ev_len_injs ht ((hf_ x (by simp [Op.operands, Call.operands])).trans hx)
def tyBool (P : Program) (t : TypeId) : Bool := match P.underlying t with | some .bool => true | _ => false
theorem tyBool_spec {t : TypeId} (h : tyBool P t = true) : P.underlying t = some .bool := by
  unfold tyBool at h
  split at h
  · assumption
  · cases h
theorem run_equal_bool {t : TypeId} (h : tyBool P t = true) (a b : Bool) (w : World) : (Op.equal t (.bool a) (.bool b)).run P w = .ok (a == b) w := by
  have hu := run_underlying (tyBool_spec h)
  show (Op.equalIn (9999 + 1) t (.bool a) (.bool b)).run P w = _
  rw [Op.equalIn]
  simp only [Sem.run_bind, hu, Result.andThen, Sem.run_pure]
theorem Ev_beql {t ty' : TypeId} {x y : Operand} {a b : Bool} (ht : tyBool P t = true) (hx : ev f x = bl a) (hy : ev f y = bl b) : Ev P C n ⟨dst, .binOp .eql t x y ty', ty, pos, after, g⟩ f L (bl (decide (a = b))) :=
  Ev_bin hx hy rfl fun w => by
    have he := run_equal_bool ht a b w
    simp only [eqGuard, binOp, Sem.run_bind, he, Result.andThen, Sem.run_pure, Bool.not_true, Bool.false_eq_true, if_false]
    cases a <;> cases b <;> rfl
theorem EA_beql {t ty' : TypeId} {x y : Operand} {a b : Bool} (ht : tyBool P t = true) (hx : ev f x = bl a) (hy : ev f y = bl b) : EvA P n ⟨dst, .binOp .eql t x y ty', ty, pos, after, g⟩ f L (bl (decide (a = b))) :=
  fun C_ f2_ hf_ L2_ hL_ => Ev_beql ht ((hf_ x (by simp [Op.operands])).trans hx) ((hf_ y (by simp [Op.operands])).trans hy)
end
end Go.Eng

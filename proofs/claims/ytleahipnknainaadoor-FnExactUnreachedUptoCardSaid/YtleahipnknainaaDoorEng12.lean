/- The engine: short forms. -/
import Derived.Test.YtleahipnknainaaDoorEng11
set_option linter.unusedVariables false
namespace Go.Eng

section
variable {P : Program} {C : Cx} {n : Nat} {f : Fr} {L : Hp} {Q : AQ} {ops : Array Oper} {rest : List Oper} {dst : Option Tmp} {ty : TypeId} {pos : String} {after : Array Edge}

theorem AL_fcall0 (hT : CT P C) {x : Operand} {args : Array Operand} {ts : Array TypeId} {k : FuncId} {ds rs : List D} (hx : ev f x = .d (.fn k [])) (hc : Callable P k) (hp : PCall P k ds (· = rs)) (ha : args.toList.map (ev f) = ds.map V.d)
    (hd : dstOk n dst = true) (h : AL P C n ops rest Q (updo f dst (retV rs)) L) : AL P C n ops (⟨dst, callV x args ts, ty, pos, after, none⟩ :: rest) Q f L :=
  AL_fcall hT (caps := []) hx rfl hc (by rw [List.append_nil]; exact hp) ha hd h
theorem AL_pcall0 (hT : CT P C) {x : Operand} {args : Array Operand} {ts : Array TypeId} {k : FuncId} {ds : List D} {post : List D → Prop} (hx : ev f x = .d (.fn k [])) (hc : Callable P k) (hp : PCall P k ds post) (ha : args.toList.map (ev f) = ds.map V.d)
    (hd : dstOk n dst = true) (h : ∀ rs, post rs → AL P C n ops rest Q (updo f dst (retV rs)) L) : AL P C n ops (⟨dst, callV x args ts, ty, pos, after, none⟩ :: rest) Q f L :=
  AL_pcall hT (caps := []) hx rfl hc (by rw [List.append_nil]; exact hp) ha hd h

theorem upd_same {s : Nat} {v : V} (h : f s = v) : upd f s v = f := by
  funext i
  by_cases e : i = s
  · subst e; rw [upd_self, h]
  · rw [upd_ne _ _ _ _ e]

/-- A slot's Bool, one way or the other. -/
theorem AL_bool (s : Nat) {b : Bool} (hs : f s = bl b) (ht : b = true → AL P C n ops rest Q (upd f s (bl true)) L) (hf : b = false → AL P C n ops rest Q (upd f s (bl false)) L) : AL P C n ops rest Q f L := by
  cases b with
  | true => have := ht rfl; rwa [upd_same hs] at this
  | false => have := hf rfl; rwa [upd_same hs] at this

/-- Ways that meet. -/
theorem Wk.then {Z : Fr → Hp → Prop} (h : Wk C n f L (fun f' L' => Wk C n f' L' Z)) : Wk C n f L Z := by
  intro a w β S hr
  obtain ⟨f1, L1, β1, S1, hr1, h1⟩ := h a w β S hr
  exact h1 a w β1 S1 hr1
theorem AC_seqJ {x y : Code} (J : Fr → Hp → Prop) (h1 : AC P C n x (thenQ (fun a w => ∃ f L β S, Rel C n f L a w β S ∧ J f L) Q) f L) (h2 : ∀ f L, J f L → AC P C n y Q f L) : AC P C n (.seq x y) Q f L := by
  refine AC_seq fun K hK => AC_mono h1 fun e a w q => ?_
  cases e with
  | normal =>
    obtain ⟨f', L', β', S', hr, hj⟩ := q
    exact hK C f' L' (h2 f' L' hj) a w β' S' hr
  | _ => exact q
/-- Ways that meet under contexts of their own. -/
theorem AC_seqX {x y : Code} (J : Cx → Fr → Hp → Prop) (h1 : AC P C n x (thenQ (Held n J) Q) f L) (h2 : ∀ C f L, J C f L → AC P C n y Q f L) : AC P C n (.seq x y) Q f L := by
  refine AC_seq fun K hK => AC_mono h1 fun e a w q => ?_
  cases e with
  | normal =>
    obtain ⟨C', f', L', β', S', hr, hj⟩ := q
    exact hK C' f' L' (h2 C' f' L' hj) a w β' S' hr
  | _ => exact q

/-- A state told by slots: some from an elder frame, some anew. -/
def FS (ks : List Nat) (f : Fr) (ms : List (Nat × V)) : Fr := frOf (ms ++ ks.map fun k => (k, f k))

theorem AC_loopS (ks : List Nat) (St : Type) (mods : St → List (Nat × V)) (Lf : St → Hp) (μ : St → Nat) (Inv : St → Prop) (s0 : St) {c : Code}
    (enter : Wk C n f L (fun f' L' => f' = FS ks f (mods s0) ∧ L' = Lf s0)) (h0 : Inv s0)
    (round : ∀ st, Inv st → AC P C n c (thenQ (fun a w => ∃ f'' L'' β S, Rel C n f'' L'' a w β S ∧ ∃ st', μ st' < μ st ∧ Inv st' ∧ f'' = FS ks f (mods st') ∧ L'' = Lf st') Q) (FS ks f (mods st)) (Lf st)) : AC P C n (.loop c) Q f L := by
  refine AC_loop (fun m f' L' => ∃ st, μ st = m ∧ Inv st ∧ f' = FS ks f (mods st) ∧ L' = Lf st) (μ s0) (enter.mono ?_) ?_
  · rintro f' L' ⟨rfl, rfl⟩
    exact ⟨s0, rfl, h0, rfl, rfl⟩
  · rintro m f' L' ⟨st, rfl, hI, rfl, rfl⟩
    refine AC_mono (round st hI) fun e a w q => ?_
    cases e with
    | normal =>
      obtain ⟨f, L, β, S, hr, st', h1, h2, h3, h4⟩ := q
      exact ⟨f, L, β, S, hr, μ st', h1, st', rfl, h2, h3, h4⟩
    | _ => exact q

/-- A loop whose rounds have contexts of their own. -/
theorem AC_loopX (St : Type) (mods : St → List (Nat × V)) (Lf : St → Hp) (μ : St → Nat) (Inv : Cx → St → Prop) (ks : List Nat) {c : Code}
    (enter : Fin C n (Held n fun C' f' L' => ∃ st, Inv C' st ∧ f' = FS ks f (mods st) ∧ L' = Lf st) f L)
    (round : ∀ C' st, Inv C' st → AC P C' n c (thenQ (Held n fun C'' f'' L'' => ∃ st', μ st' < μ st ∧ Inv C'' st' ∧ f'' = FS ks f (mods st') ∧ L'' = Lf st') Q) (FS ks f (mods st)) (Lf st)) : AC P C n (.loop c) Q f L := by
  refine AC_loopC (fun m C' f' L' => ∃ st, μ st = m ∧ Inv C' st ∧ f' = FS ks f (mods st) ∧ L' = Lf st) ?_ ?_
  · intro a w β S hr
    obtain ⟨C', f', L', β', S', hr', st, h1, h2, h3⟩ := enter a w β S hr
    exact ⟨μ st, C', f', L', β', S', hr', st, rfl, h1, h2, h3⟩
  · rintro m C' f' L' ⟨st, rfl, hI, rfl, rfl⟩
    refine AC_mono (round C' st hI) fun e a w q => ?_
    cases e with
    | normal =>
      obtain ⟨C'', f, L, β, S, hr, st', h1, h2, h3, h4⟩ := q
      exact ⟨μ st', h1, C'', f, L, β, S, hr, st', rfl, h2, h3, h4⟩
    | _ => exact q

theorem enterS {ks : List Nat} {g : Fr} {ms : List (Nat × V)} {L2 : Hp} (src : List (Option Nat)) (hlen : src.length = L2.length) (hnd : nodupS src = true) (hb : BxTo L src 0 L2) (hs : SlTo L src f (ms ++ ks.map fun k => (k, g k))) :
    Wk C n f L (fun f' L' => f' = FS ks g ms ∧ L' = L2) := Wk_to src _ L2 hlen hnd hb hs ⟨rfl, rfl⟩
theorem fin_wk {Z : Fr → Hp → Prop} (h : Wk C n f L Z) : Fin C n (fun a w => ∃ f' L' β S, Rel C n f' L' a w β S ∧ Z f' L') f L := fun a w β S hr =>
  let ⟨f', L', β', S', hr', hz⟩ := h a w β S hr; ⟨f', L', β', S', hr', hz⟩
theorem closeS {ks : List Nat} {g : Fr} {St : Type} {mods : St → List (Nat × V)} {Lf : St → Hp} {μ : St → Nat} {Inv : St → Prop} {st : St} (st' : St) (src : List (Option Nat)) (hlen : src.length = (Lf st').length) (hnd : nodupS src = true) (hμ : μ st' < μ st) (hI : Inv st')
    (hb : BxTo L src 0 (Lf st')) (hs : SlTo L src f (mods st' ++ ks.map fun k => (k, g k))) : Fin C n (fun a w => ∃ f'' L'' β S, Rel C n f'' L'' a w β S ∧ ∃ st', μ st' < μ st ∧ Inv st' ∧ f'' = FS ks g (mods st') ∧ L'' = Lf st') f L :=
  fin_wk (Wk_to src _ (Lf st') hlen hnd hb hs ⟨st', hμ, hI, rfl, rfl⟩)

theorem Vw_int {src : List (Option Nat)} {k : IntKind} {a b : Int} (h : a = b) : Vw L src (.d (.c (.int k a))) (.d (.c (.int k b))) := by subst h; exact .rd .d
theorem Vw_c {src : List (Option Nat)} {a b : Value} (h : a = b) : Vw L src (.d (.c a)) (.d (.c b)) := by subst h; exact .rd .d
theorem Vw_d {src : List (Option Nat)} {a b : D} (h : a = b) : Vw L src (.d a) (.d b) := by subst h; exact .rd .d
theorem joinS {sl : List (Nat × V)} {L2 : Hp} (src : List (Option Nat)) (hlen : src.length = L2.length) (hnd : nodupS src = true) (hb : BxTo L src 0 L2) (hs : SlTo L src f sl) : Fin C n (fun a w => ∃ f' L' β S, Rel C n f' L' a w β S ∧ f' = frOf sl ∧ L' = L2) f L := fin_wk (Wk_to src _ L2 hlen hnd hb hs ⟨rfl, rfl⟩)

theorem SlTo_nil {src : List (Option Nat)} : SlTo L src f [] := trivial
theorem SlTo_cons {src : List (Option Nat)} {i : Nat} {v : V} {r : List (Nat × V)} (h : Vw L src (f i) v) (k : SlTo L src f r) : SlTo L src f ((i, v) :: r) := ⟨h, k⟩
theorem BxTo_nil {src : List (Option Nat)} {j : Nat} : BxTo L src j [] := trivial
theorem BxTo_some {src : List (Option Nat)} {j i : Nat} {b1 b2 : Box} {r : Hp} (h1 : srcOf src j = some i) (h2 : L[i]? = some (some b1)) (h3 : b1.ty = b2.ty) (h4 : b1.l = b2.l) (h5 : VwL L src b1.es b2.es) (h : BxTo L src (j + 1) r) : BxTo L src j (some b2 :: r) :=
  ⟨⟨i, b1, h1, h2, h3, h4, h5⟩, h⟩
theorem BxTo_none {src : List (Option Nat)} {j : Nat} {r : Hp} (h : BxTo L src (j + 1) r) : BxTo L src j (none :: r) := h

theorem ret_ok {fn : Func} {post : List D → Prop} {vs : List V} {ds : List D} (hdm : ∀ b, ¬ C.Dm b) (h1 : RetV P f L fn.results.toList vs) (h2 : ReadsL L (fun _ => True) vs ds) (h3 : post ds) : Fin C n (retQ fn P C.w0 C.S0 post .ret) f L := fun a w β S hr => ⟨rfl, ret_fin (CExt.refl C) hdm h1 h2 h3 a w β S hr⟩
theorem end_ok {fn : Func} {post : List D → Prop} {vs : List V} {ds : List D} (hdm : ∀ b, ¬ C.Dm b) (h1 : RetV P f L fn.results.toList vs) (h2 : ReadsL L (fun _ => True) vs ds) (h3 : post ds) : Fin C n (retQ fn P C.w0 C.S0 post .normal) f L := fun a w β S hr => ⟨rfl, ret_fin (CExt.refl C) hdm h1 h2 h3 a w β S hr⟩
end
mutual
/-- The cells of data that are plain to the bottom. -/
def cellsD : D → Option (List Value)
  | .c x => bif Value.scalar x then some [x] else none
  | .agg fs ds => cellsDs fs ds
  | _ => none
def cellsDs : List Lay → List D → Option (List Value)
  | [], [] => some []
  | f :: fs, d :: ds => match cellsD d, cellsDs fs ds with
    | some a, some b => bif Nat.beq a.length f.len then some (a ++ b) else none
    | _, _ => none
  | _, _ => none
end
mutual
theorem DC_cells {S : Nat → Prop} {w : World} : ∀ (x : D) (cs : List Value), cellsD x = some cs → DC S w x cs
  | .c x, cs, h => by
    simp only [cellsD] at h
    cases hs : Value.scalar x with
    | true => rw [hs] at h; simp only [cond_true, Option.some.injEq] at h; subst h; unfold DC; exact ⟨rfl, hs⟩
    | false => rw [hs] at h; cases h
  | .agg fs ds, cs, h => by
    simp only [cellsD] at h
    unfold DC
    exact DCs_cells fs ds cs h
  | .sl _ _, cs, h => by simp [cellsD] at h
  | .rp _ _ _, cs, h => by simp [cellsD] at h
  | .fn _ _, cs, h => by simp [cellsD] at h
theorem DCs_cells {S : Nat → Prop} {w : World} : ∀ (fs : List Lay) (ds : List D) (cs : List Value), cellsDs fs ds = some cs → DCs S w fs ds cs
  | [], [], cs, h => by simp only [cellsDs, Option.some.injEq] at h; subst h; unfold DCs; exact ⟨rfl, rfl⟩
  | f :: fs, d :: ds, cs, h => by
    simp only [cellsDs] at h
    split at h
    · rename_i a b e1 e2
      cases hl : Nat.beq a.length f.len with
      | true =>
        rw [hl] at h
        simp only [cond_true, Option.some.injEq] at h
        subst h
        unfold DCs
        exact ⟨f, fs, a, b, rfl, rfl, Nat.eq_of_beq_eq_true hl, DC_cells d a e1, DCs_cells fs ds b e2⟩
      | false => rw [hl] at h; cases h
    · cases h
  | [], _ :: _, cs, h => by simp [cellsDs] at h
  | _ :: _, [], cs, h => by simp [cellsDs] at h
end
theorem VC_cells {β : Beta} {S : Nat → Prop} {w : World} {x : D} {cs : List Value} (h : cellsD x = some cs) : VC β S w (.d x) cs := by unfold VC; exact DC_cells x cs h
@[simp] theorem V_isAgg_d (x : D) : (V.d x).isAgg = x.isAgg := rfl
@[simp] theorem V_len_d (x : D) : (V.d x).len? = x.len? := rfl
end Go.Eng

/- Boxes that stay in their place over a call; boxes behind a place that a function value acts on. -/
import Derived.Test.YtjhdkjacfclipaaHc
import Derived.Test.YtjhdkjacfclipaaEng26
set_option linter.unusedVariables false
set_option linter.unusedSimpArgs false
namespace Go.Eng

def invS : List Nat → Nat → Option Nat
  | [], _ => none
  | x :: r, i => bif Nat.beq x i then some 0 else (invS r i).map (· + 1)
theorem invS_some : ∀ {src : List Nat} {i j : Nat}, invS src i = some j → src[j]? = some i
  | [], i, j, h => by cases h
  | x :: r, i, j, h => by
    unfold invS at h
    cases e : Nat.beq x i with
    | true => rw [e] at h; simp at h; subst h; have := Nat.eq_of_beq_eq_true e; subst this; rfl
    | false =>
      rw [e] at h
      simp only [cond_false, Option.map_eq_some_iff] at h
      obtain ⟨m, h1, rfl⟩ := h
      simpa using invS_some h1
def putL : List Nat → List Box → Hp → Hp
  | i :: is, b :: bs, L => (putL is bs L).set i (some b)
  | _, _, L => L
theorem putL_length : ∀ (is : List Nat) (bs : List Box) (L : Hp), (putL is bs L).length = L.length
  | i :: is, b :: bs, L => by simp [putL, putL_length is bs L]
  | [], _, L => by simp [putL]
  | _ :: _, [], L => by simp [putL]
theorem putL_get : ∀ (is : List Nat) (bs : List Box) (L : Hp) (J : Nat) (bx : Box), is.length = bs.length → (putL is bs L)[J]? = some (some bx) → (J ∉ is ∧ L[J]? = some (some bx)) ∨ ∃ j : Nat, is[j]? = some J ∧ bs[j]? = some bx
  | i :: is, b :: bs, L, J, bx, hl, h => by
    simp only [putL, List.getElem?_set] at h
    by_cases e : i = J
    · subst e
      rw [if_pos rfl] at h
      split at h
      · injection h with h; injection h with h
        exact .inr ⟨0, rfl, by simp [h]⟩
      · cases h
    · rw [if_neg e] at h
      rcases putL_get is bs L J bx (by simpa using hl) h with ⟨h1, h2⟩ | ⟨j, h1, h2⟩
      · exact .inl ⟨by simp only [List.mem_cons, not_or]; exact ⟨fun h => e h.symm, h1⟩, h2⟩
      · exact .inr ⟨j + 1, by simpa using h1, by simpa using h2⟩
  | [], [], L, J, bx, _, h => .inl ⟨by simp, by simpa [putL] using h⟩
/-- Boxes that come back, seen in the caller's places. -/
def BxP (ρ : Nat → Option Nat) (L : Hp) : List Nat → List Box → List Box → Prop
  | _, [], [] => True
  | i :: is, b1 :: r1, b2 :: r2 => (b1.ty.t = b2.ty.t ∧ b1.l = b2.l ∧ VxL ρ b1.es b2.es ∧ (b2.ty.ad = none ∨ ∃ bx, L[i]? = some (some bx) ∧ b2.ty.ad = bx.ty.ad)) ∧ BxP ρ L is r1 r2
  | _, _, _ => False
theorem BxP_nil {ρ : Nat → Option Nat} {L : Hp} {is : List Nat} : BxP ρ L is [] [] := by cases is <;> trivial
theorem BxP_cons {ρ : Nat → Option Nat} {L : Hp} {i : Nat} {is : List Nat} {b1 b2 : Box} {r1 r2 : List Box} (h1 : b1.ty.t = b2.ty.t) (h2 : b1.l = b2.l) (h3 : VxL ρ b1.es b2.es) (h4 : b2.ty.ad = none) (h : BxP ρ L is r1 r2) : BxP ρ L (i :: is) (b1 :: r1) (b2 :: r2) := ⟨⟨h1, h2, h3, .inl h4⟩, h⟩
theorem BxP_keep {ρ : Nat → Option Nat} {L : Hp} {i : Nat} {is : List Nat} {b1 b2 bx : Box} {r1 r2 : List Box} (h1 : b1.ty.t = b2.ty.t) (h2 : b1.l = b2.l) (h3 : VxL ρ b1.es b2.es) (h4 : L[i]? = some (some bx)) (h5 : b2.ty.ad = bx.ty.ad) (h : BxP ρ L is r1 r2) : BxP ρ L (i :: is) (b1 :: r1) (b2 :: r2) := ⟨⟨h1, h2, h3, .inr ⟨bx, h4, h5⟩⟩, h⟩
theorem BxP_get {ρ : Nat → Option Nat} {L : Hp} : ∀ (is : List Nat) (r1 r2 : List Box), BxP ρ L is r1 r2 → r1.length = r2.length ∧ ∀ (j : Nat) (b2 : Box), r2[j]? = some b2 → ∃ b1 : Box, r1[j]? = some b1 ∧ b1.ty.t = b2.ty.t ∧ b1.l = b2.l ∧ VxL ρ b1.es b2.es ∧ (b2.ty.ad = none ∨ ∃ i bx, is[j]? = some i ∧ L[i]? = some (some bx) ∧ b2.ty.ad = bx.ty.ad)
  | _, [], [], _ => ⟨rfl, fun j b2 h => by simp at h⟩
  | i :: is, b1 :: r1, b2 :: r2, h => by
    obtain ⟨h1, h2⟩ := BxP_get is r1 r2 h.2
    refine ⟨by simp [h1], fun j b h3 => ?_⟩
    cases j with
    | zero =>
      simp at h3; subst h3
      obtain ⟨k1, k2, k3, k4⟩ := h.1
      exact ⟨b1, rfl, k1, k2, k3, k4.imp id fun ⟨bx, m1, m2⟩ => ⟨i, bx, rfl, m1, m2⟩⟩
    | succ j =>
      simp at h3
      obtain ⟨b', k1, k2⟩ := h2 j b h3
      exact ⟨b', by simpa using k1, by simpa using k2⟩
  | [], _ :: _, _ :: _, h => h.elim
  | is, [], _ :: _, h => by cases is <;> exact h.elim
  | is, _ :: _, [], h => by cases is <;> exact h.elim

section
variable {P : Program} {C : Cx} {n : Nat} {f : Fr} {L : Hp} {Q : AQ} {ops : Array Oper} {rest : List Oper} {dst : Option Tmp} {ty : TypeId} {pos : String} {after : Array Edge} {a : Act} {w w' : World} {β : Beta} {S S' : Nat → Prop}

theorem Rel.hstay (hr : Rel C n f L a w β S) {src : List Nat} {Lin Lout bs : List Box} {β' : Beta} (hB : BxI L (srcOf (src.map some)) 0 Lin) (hln : src.length = Lin.length) (hnd : nodupS (src.map some) = true) (hlo : Lin.length = Lout.length)
    (hO : BxP (invS src) L src Lout bs) (hp' : HeapR β' S' w' (someL Lout)) (hs : ∀ j, j < Lin.length → β' j = viewB (srcOf (src.map some)) β j)
    (su : ∀ b, S b → S' b) (hS : ∀ b, S' b → S b ∨ w.heap.size ≤ b ∨ inBk Lin (viewB (srcOf (src.map some)) β) b) (hp : Pres (inBk Lin (viewB (srcOf (src.map some)) β)) w w') :
    Rel C n f (putL src bs L) a w' β S' := by
  have hsome : ∀ j i, srcOf (src.map some) j = some i ↔ src[j]? = some i := fun j i => by
    unfold srcOf
    rw [List.getElem?_map]
    cases e : src[j]? <;> simp
  obtain ⟨hol, hog⟩ := BxP_get src Lout bs hO
  have hbx : ∀ i ∈ src, ∃ b1, L[i]? = some (some b1) := fun i hi => by
    obtain ⟨j, hj, h1⟩ := List.mem_iff_getElem.1 hi
    have h2 : src[j]? = some i := by rw [List.getElem?_eq_getElem hj, h1]
    obtain ⟨i', b1, k1, k2, _⟩ := BxI_get Lin 0 hB j Lin[j] (List.getElem?_eq_getElem (by omega))
    simp only [Nat.zero_add] at k1
    rw [(hsome j i).2 h2] at k1
    injection k1 with k1
    exact ⟨b1, by rw [k1]; exact k2⟩
  have hbe : ∀ j i, src[j]? = some i → β' j = β i := fun j i h => by
    rw [hs j (by have := lt_of_get h; omega), viewB_some ((hsome j i).2 h)]
  have hin : ∀ b, inBk Lin (viewB (srcOf (src.map some)) β) b → ∃ i bx c, i ∈ src ∧ L[i]? = some (some bx) ∧ β i = some (some (b, c)) := fun b ⟨j, bx, c, h1, h2⟩ => by
    obtain ⟨i, b1, k1, k2, _⟩ := BxI_get Lin 0 hB j bx h1
    simp only [Nat.zero_add] at k1
    rw [viewB_some k1] at h2
    exact ⟨i, b1, c, List.mem_of_getElem? ((hsome j i).1 k1), k2, h2⟩
  have lat : Later β S w β S' w' := by
    refine ⟨fun i o hi => hi, su, fun b hb => hp.block b (hr.hp.fz b hb) fun h => ?_⟩
    obtain ⟨i, bx, c, _, h2, h3⟩ := hin b h
    exact hr.hp.own i bx b c h2 h3 hb
  have hx2 : ∀ i j, invS src i = some j → β i = β' j := fun i j h => (hbe j i (invS_some h)).symm
  have cases_ : ∀ J bx, (putL src bs L)[J]? = some (some bx) → (J ∉ src ∧ L[J]? = some (some bx)) ∨ (∃ (j : Nat) (b1 b0 : Box), src[j]? = some J ∧ L[J]? = some (some b0) ∧ Lout[j]? = some b1 ∧ b1.ty.t = bx.ty.t ∧ b1.l = bx.l ∧ VxL (invS src) b1.es bx.es ∧ (bx.ty.ad = none ∨ bx.ty.ad = b0.ty.ad)) := fun J bx h => by
    rcases putL_get src bs L J bx (by omega) h with h1 | ⟨j, h1, h2⟩
    · exact .inl h1
    · obtain ⟨b1, k1, k2⟩ := hog j bx h2
      obtain ⟨b0, h0⟩ := hbx J (List.mem_of_getElem? h1)
      obtain ⟨k2, k3, k4, k5⟩ := k2
      refine .inr ⟨j, b1, b0, h1, h0, k1, k2, k3, k4, k5.imp id ?_⟩
      rintro ⟨i, b2, m1, m2, m3⟩
      rw [h1] at m1
      injection m1 with m1
      subst m1
      rw [h0] at m2
      injection m2 with m2
      injection m2 with m2
      rw [m2]; exact m3
  have getO : ∀ (j : Nat) (b1 : Box), Lout[j]? = some b1 → (someL Lout)[j]? = some (some b1) := fun j b1 h => someL_mk h
  have oldb : ∀ J bx, (putL src bs L)[J]? = some (some bx) → ∃ b0, L[J]? = some (some b0) := fun J bx h => by
    rcases cases_ J bx h with ⟨_, h3⟩ | ⟨j, b1, b0, _, h3, _⟩
    · exact ⟨_, h3⟩
    · exact ⟨_, h3⟩
  refine hr.later lat ⟨?_, ?_, ?_, hp'.fz, ?_, ?_⟩ ?_ ?_ ?_
  · intro J bx h
    rcases cases_ J bx h with ⟨h2, h3⟩ | ⟨j, b1, b0, h1, h0, h2, h3, h4, h5, _⟩
    · refine BoxR_later lat (fun b c hb => hp.block b ((hr.hp.bx J bx h3).lt hb) fun hi => ?_) (hr.hp.bx J bx h3)
      obtain ⟨i, b', c', k1, k2, k3⟩ := hin b hi
      have := hr.hp.inj J i b bx b' c c' h3 k2 hb k3
      subst this; exact h2 k1
    · have hl := VxL_length h5
      obtain ⟨q0, q⟩ := hp'.bx j b1 (getO j b1 h2)
      refine ⟨by omega, ?_⟩
      rcases q with ⟨q1, q2⟩ | ⟨b, Cp, cur, ds, q1, q2, q3, q4, q5, q6⟩
      · refine .inl ⟨by rw [← hbe j J h1]; exact q1, ?_⟩
        rw [q2] at hl
        exact List.eq_nil_of_length_eq_zero hl.symm
      · refine .inr ⟨b, Cp, cur, ds, by rw [← hbe j J h1]; exact q1, by rw [← h3]; exact q2, by rw [← h4]; exact q3, by rw [← hl]; exact q4, ?_, q6⟩
        rw [← hl, ← h4]
        exact VxL_sound hx2 h5 _ ds q5
  · intro J J' b bx bx' c c' h h' hb hb'
    obtain ⟨b0, h0⟩ := oldb J bx h
    obtain ⟨b0', h0'⟩ := oldb J' bx' h'
    exact hr.hp.inj J J' b b0 b0' c c' h0 h0' hb hb'
  · intro J bx b c h hb hs'
    rcases cases_ J bx h with ⟨h2, h3⟩ | ⟨j, b1, b0, h1, h0, h2, _⟩
    · rcases hS b hs' with h4 | h4 | h4
      · exact hr.hp.own J bx b c h3 hb h4
      · have := (hr.hp.bx J bx h3).lt hb; omega
      · obtain ⟨i, b', c', k1, k2, k3⟩ := hin b h4
        have := hr.hp.inj J i b bx b' c c' h3 k2 hb k3
        subst this; exact h2 k1
    · rw [← hbe j J h1] at hb
      exact hp'.own j b1 b c (getO j b1 h2) hb hs'
  · intro J hJ
    rw [putL_length] at hJ
    exact hr.hp.un J hJ
  · intro J bx q h hq
    rcases cases_ J bx h with ⟨h2, h3⟩ | ⟨j, b1, b0, h1, h0, h2, h3, h4, h5, h6⟩
    · exact hr.hp.ad J bx q h3 hq
    · rcases h6 with h6 | h6
      · rw [h6] at hq; cases hq
      · exact hr.hp.ad J b0 q h0 (by rw [← h6]; exact hq)
  · intro J bx b c h hb
    obtain ⟨b0, h0⟩ := oldb J bx h
    exact hr.own J b0 b c h0 hb
  · intro b hb
    rcases hS b hb with h1 | h1 | h1
    · exact hr.fz b h1
    · have := hr.pres.size; exact .inr (.inl (by omega))
    · obtain ⟨i, b', c', k1, k2, k3⟩ := hin b h1
      exact .inr (hr.own i b' b c' k2 k3).symm
  · refine ⟨hp.os.trans hr.pres.os, hp.tape.trans hr.pres.tape, hp.output.trans hr.pres.output, by have := hr.pres.size; have := hp.size; omega, fun b hb hd => ?_⟩
    have hsz := hr.pres.size
    refine (hp.block b (by omega) fun h => ?_).trans (hr.pres.block b hb hd)
    obtain ⟨i, b', c', k1, k2, k3⟩ := hin b h
    rcases hr.own i b' b c' k2 k3 with h1 | h1
    · exact hd h1
    · omega

/-- A call over boxes that all stay: the caller keeps their places. The results are data. -/
theorem AL_hstay (hT : CT P C) {x : Operand} {args : Array Operand} {ts : Array TypeId} {k : FuncId} {hargs : List V} {Lin Lout : List Box} {m : Nat} {res : List V} (src : List Nat) (bs : List Box)
    (hx : ev f x = .d (.fn k [])) (hc : Callable P k) (hp : HCall P k hargs Lin m none res Lout) (ha : VxL (srcOf (src.map some)) (args.toList.map (ev f)) hargs) (hln : src.length = Lin.length) (hm : m = Lin.length) (hnd : nodupS (src.map some) = true) (hB : BxI L (srcOf (src.map some)) 0 Lin)
    (hlo : Lin.length = Lout.length) (hO : BxP (invS src) L src Lout bs) (res' : List V) (hres : VxL (fun _ => none) res res') (hd : dstOk n dst = true)
    (h : AL P C n ops rest Q (updo f dst (retH res')) (putL src bs L)) : AL P C n ops (⟨dst, callV x args ts, ty, pos, after, none⟩ :: rest) Q f L := by
  intro a w β S hr
  refine wpList_plain rfl fun Kc hK => ?_
  have hv := rel_ev hr x
  rw [hx] at hv
  obtain ⟨cv, c1, c2⟩ := VR_fn hv
  have hcv : cv = [] := by
    have := (DCs_len _ _ _ c2).1
    simpa [Lay.lens] using this
  subst hcv
  unfold Oper.wp
  rw [call_run hc c1, Oper.upon_enter]
  have heq : (args.map a.eval ++ ([] : List Value).toArray) = (args.toList.map a.eval).toArray := by
    show args.map a.eval ++ #[] = _
    rw [Array.append_empty, ← Array.toList_map, Array.toArray_toList]
  rw [heq]
  refine (hp w S (viewB (srcOf (src.map some)) β) _ (hT.tab hr) (hr.hp.view hB (srcOf_nodup hnd) (srcOf_un hln)) (args_VR0 hr args.toList hargs ha fun j i e => viewB_some e)).mono ?_
  rintro en w' ⟨ys, β', S', M, rfl, ⟨g1, rfl⟩, g2, g3, g4, g5, g6, g7, g8⟩
  have hr' := hr.hstay hB hln hnd hlo hO g2 (fun j hj => g3 j (by omega)) g6 g7 g8
  exact hK _ _ (h _ _ _ _ (hr'.puto (dstOk_spec hd) (retH_VR (VxL_VR0 (fun j i e => by cases e) hres g1))))
end

/-! ### Boxes behind a place -/
def βo (o : Nat → Option (Nat × Nat)) (m : Nat) : Beta := fun j => if j < m then some (o j) else none
/-- A value that stands without what is read alone. -/
def V.free : V → Prop
  | .d (.c v) => Value.scalar v = true
  | .ref _ _ _ _ => True
  | .ptr _ _ _ _ => True
  | _ => False
theorem VC_free {β : Beta} {S S' : Nat → Prop} {w : World} {v : V} (hv : v.free) {cs : List Value} (h : VC β S w v cs) : VC β S' w v cs := by
  match v, hv with
  | .d (.c x), hv => simp only [VC] at h ⊢; unfold DC at h ⊢; exact h
  | .ref .., _ => simpa only [VC] using h
  | .ptr .., _ => simpa only [VC] using h
def blksO (o : Nat → Option (Nat × Nat)) (m : Nat) : List Nat := (List.range m).filterMap fun j => (o j).map (·.1)
theorem blksO_mem {o : Nat → Option (Nat × Nat)} {m b : Nat} : b ∈ blksO o m ↔ ∃ j, j < m ∧ ∃ c, o j = some (b, c) := by
  simp only [blksO, List.mem_filterMap, List.mem_range, Option.map_eq_some_iff, Prod.exists, exists_and_right, exists_eq_right]
/-- Boxes at known places, of scalars and of references to one another. -/
def Jbx {A : Type} (o : Nat → Option (Nat × Nat)) (m : Nat) (Ls : A → List Box) : Jx A where
  J a F w := HeapR (βo o m) (fun _ => False) w (someL (Ls a)) ∧ (Ls a).length = m ∧ F = blksO o m
  stab := fun a F w w' h hb => by
    obtain ⟨h1, h2, h3⟩ := h
    refine ⟨⟨fun i bx hi => BoxR_later (β := βo o m) (S := fun _ => False) (w := w) ⟨fun _ _ h => h, fun _ h => h, fun _ h => h.elim⟩ (fun b c hbc => hb b ?_) (h1.bx i bx hi), h1.inj, h1.own, fun _ h => h.elim, h1.un, h1.ad⟩, h2, h3⟩
    rw [h3, blksO_mem]
    have hi2 : i < m := by have := lt_of_get (someL_get hi); omega
    simp only [βo, if_pos hi2] at hbc
    injection hbc with hbc
    exact ⟨i, hi2, c, hbc⟩
  lt := fun a F w h b hb => by
    obtain ⟨h1, h2, h3⟩ := h
    rw [h3, blksO_mem] at hb
    obtain ⟨j, hj, c, hjo⟩ := hb
    have h4 := h1.bx j (Ls a)[j] (someL_mk (List.getElem?_eq_getElem (by omega)))
    exact h4.lt (b := b) (Cp := c) (by simp only [βo, if_pos hj, hjo])
def ptrO (o : Nat → Option (Nat × Nat)) (j : Nat) : Value := match o j with | some (b, _) => .pointer (some ⟨b, 0, none⟩) | none => .pointer none
theorem VxL_ds {r : Nat → Option Nat} {xs : List V} {ys : List D} (h : xs = ys.map V.d) : VxL r xs (ys.map V.d) := by subst h; exact VxL_d ys
end Go.Eng

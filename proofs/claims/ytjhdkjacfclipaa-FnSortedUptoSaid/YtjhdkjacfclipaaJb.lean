/- Boxes that stay in their place over a call; boxes behind a place that a function value acts on. -/
import Derived.Test.YtjhdkjacfclipaaHc
import Derived.Test.YtjhdkjacfclipaaEng26
set_option linter.unusedVariables false
set_option linter.unusedSimpArgs false
namespace Go.Eng

def invS : List Nat → Nat → Option Nat
  | [], _ => none
  | x :: r, i => bif Nat.beq x i then some 0 else (invS r i).map (· + 1)
theorem invS_some : ∀ {src : List Nat} {i j : Nat}, invS src i = some j → src[j]? = some i
  | [], i, j, h => by cases h
  | x :: r, i, j, h => by
    unfold invS at h
    cases e : Nat.beq x i with
    | true => rw [e] at h; simp at h; subst h; have := Nat.eq_of_beq_eq_true e; subst this; rfl
    | false =>
      rw [e] at h
      simp only [cond_false, Option.map_eq_some_iff] at h
      obtain ⟨m, h1, rfl⟩ := h
      simpa using invS_some h1
def putL : List Nat → List Box → Hp → Hp
  | i :: is, b :: bs, L => (putL is bs L).set i (some b)
  | _, _, L => L
theorem putL_length : ∀ (is : List Nat) (bs : List Box) (L : Hp), (putL is bs L).length = L.length
  | i :: is, b :: bs, L => by simp [putL, putL_length is bs L]
  | [], _, L => by simp [putL]
  | _ :: _, [], L => by simp [putL]
theorem putL_get : ∀ (is : List Nat) (bs : List Box) (L : Hp) (J : Nat) (bx : Box), is.length = bs.length → (putL is bs L)[J]? = some (some bx) → (J ∉ is ∧ L[J]? = some (some bx)) ∨ ∃ j : Nat, is[j]? = some J ∧ bs[j]? = some bx
  | i :: is, b :: bs, L, J, bx, hl, h => by
    simp only [putL, List.getElem?_set] at h
    by_cases e : i = J
    · subst e
      rw [if_pos rfl] at h
      split at h
      · injection h with h; injection h with h
        exact .inr ⟨0, rfl, by simp [h]⟩
      · cases h
    · rw [if_neg e] at h
      rcases putL_get is bs L J bx (by simpa using hl) h with ⟨h1, h2⟩ | ⟨j, h1, h2⟩
      · exact .inl ⟨by simp only [List.mem_cons, not_or]; exact ⟨fun h => e h.symm, h1⟩, h2⟩
      · exact .inr ⟨j + 1, by simpa using h1, by simpa using h2⟩
  | [], [], L, J, bx, _, h => .inl ⟨by simp, by simpa [putL] using h⟩
/-- Boxes that come back, seen in the caller's places. -/
def BxP (ρ : Nat → Option Nat) (L : Hp) : List Nat → List Box → List Box → Prop
  | _, [], [] => True
  | i :: is, b1 :: r1, b2 :: r2 => (b1.ty.t = b2.ty.t ∧ b1.l = b2.l ∧ VxL ρ b1.es b2.es ∧ (b2.ty.ad = none ∨ ∃ bx, L[i]? = some (some bx) ∧ b2.ty.ad = bx.ty.ad)) ∧ BxP ρ L is r1 r2
  | _, _, _ => False
theorem BxP_nil {ρ : Nat → Option Nat} {L : Hp} {is : List Nat} : BxP ρ L is [] [] := by cases is <;> trivial
theorem BxP_cons {ρ : Nat → Option Nat} {L : Hp} {i : Nat} {is : List Nat} {b1 b2 : Box} {r1 r2 : List Box} (h1 : b1.ty.t = b2.ty.t) (h2 : b1.l = b2.l) (h3 : VxL ρ b1.es b2.es) (h4 : b2.ty.ad = none) (h : BxP ρ L is r1 r2) : BxP ρ L (i :: is) (b1 :: r1) (b2 :: r2) := ⟨⟨h1, h2, h3, .inl h4⟩, h⟩
theorem BxP_keep {ρ : Nat → Option Nat} {L : Hp} {i : Nat} {is : List Nat} {b1 b2 bx : Box} {r1 r2 : List Box} (h1 : b1.ty.t = b2.ty.t) (h2 : b1.l = b2.l) (h3 : VxL ρ b1.es b2.es) (h4 : L[i]? = some (some bx)) (h5 : b2.ty.ad = bx.ty.ad) (h : BxP ρ L is r1 r2) : BxP ρ L (i :: is) (b1 :: r1) (b2 :: r2) := ⟨⟨h1, h2, h3, .inr ⟨bx, h4, h5⟩⟩, h⟩
theorem BxP_get {ρ : Nat → Option Nat} {L : Hp} : ∀ (is : List Nat) (r1 r2 : List Box), BxP ρ L is r1 r2 → r1.length = r2.length ∧ ∀ (j : Nat) (b2 : Box), r2[j]? = some b2 → ∃ b1 : Box, r1[j]? = some b1 ∧ b1.ty.t = b2.ty.t ∧ b1.l = b2.l ∧ VxL ρ b1.es b2.es ∧ (b2.ty.ad = none ∨ ∃ i bx, is[j]? = some i ∧ L[i]? = some (some bx) ∧ b2.ty.ad = bx.ty.ad)
  | _, [], [], _ => ⟨rfl, fun j b2 h => by simp at h⟩
  | i :: is, b1 :: r1, b2 :: r2, h => by
    obtain ⟨h1, h2⟩ := BxP_get is r1 r2 h.2
    refine ⟨by simp [h1], fun j b h3 => ?_⟩
    cases j with
    | zero =>
      simp at h3; subst h3
      obtain ⟨k1, k2, k3, k4⟩ := h.1
      exact ⟨b1, rfl, k1, k2, k3, k4.imp id fun ⟨bx, m1, m2⟩ => ⟨i, bx, rfl, m1, m2⟩⟩
    | succ j =>
      simp at h3
      obtain ⟨b', k1, k2⟩ := h2 j b h3
      exact ⟨b', by simpa using k1, by simpa using k2⟩
  | [], _ :: _, _ :: _, h => h.elim
  | is, [], _ :: _, h => by cases is <;> exact h.elim
  | is, _ :: _, [], h => by cases is <;> exact h.elim

section
variable {P : Program} {C : Cx} {n : Nat} {f : Fr} {L : Hp} {Q : AQ} {ops : Array Oper} {rest : List Oper} {dst : Option Tmp} {ty : TypeId} {pos : String} {after : Array Edge} {a : Act} {w w' : World} {β : Beta} {S S' : Nat → Prop}

theorem Rel.hstay (hr : Rel C n f L a w β S) {src : List Nat} {Lin Lout bs : List Box} {β' : Beta} (hB : BxI L (srcOf (src.map some)) 0 Lin) (hln : src.length = Lin.length) (hnd : nodupS (src.map some) = true) (hlo : Lin.length = Lout.length)
    (hO : BxP (invS src) L src Lout bs) (hp' : HeapR β' S' w' (someL Lout)) (hs : ∀ j, j < Lin.length → β' j = viewB (srcOf (src.map some)) β j)
    (su : ∀ b, S b → S' b) (hS : ∀ b, S' b → S b ∨ w.heap.size ≤ b ∨ inBk Lin (viewB (srcOf (src.map some)) β) b) (hp : Pres (inBk Lin (viewB (srcOf (src.map some)) β)) w w') :
    Rel C n f (putL src bs L) a w' β S' := by
  have hsome : ∀ j i, srcOf (src.map some) j = some i ↔ src[j]? = some i := fun j i => by
    unfold srcOf
    rw [List.getElem?_map]
    cases e : src[j]? <;> simp
  obtain ⟨hol, hog⟩ := BxP_get src Lout bs hO
  have hbx : ∀ i ∈ src, ∃ b1, L[i]? = some (some b1) := fun i hi => by
    obtain ⟨j, hj, h1⟩ := List.mem_iff_getElem.1 hi
    have h2 : src[j]? = some i := by rw [List.getElem?_eq_getElem hj, h1]
    obtain ⟨i', b1, k1, k2, _⟩ := BxI_get Lin 0 hB j Lin[j] (List.getElem?_eq_getElem (by omega))
    simp only [Nat.zero_add] at k1
    rw [(hsome j i).2 h2] at k1
    injection k1 with k1
    exact ⟨b1, by rw [k1]; exact k2⟩
  have hbe : ∀ j i, src[j]? = some i → β' j = β i := fun j i h => by
    rw [hs j (by have := lt_of_get h; omega), viewB_some ((hsome j i).2 h)]
  have hin : ∀ b, inBk Lin (viewB (srcOf (src.map some)) β) b → ∃ i bx c, i ∈ src ∧ L[i]? = some (some bx) ∧ β i = some (some (b, c)) := fun b ⟨j, bx, c, h1, h2⟩ => by
    obtain ⟨i, b1, k1, k2, _⟩ := BxI_get Lin 0 hB j bx h1
    simp only [Nat.zero_add] at k1
    rw [viewB_some k1] at h2
    exact ⟨i, b1, c, List.mem_of_getElem? ((hsome j i).1 k1), k2, h2⟩
  have lat : Later β S w β S' w' := by
    refine ⟨fun i o hi => hi, su, fun b hb => hp.block b (hr.hp.fz b hb) fun h => ?_⟩
    obtain ⟨i, bx, c, _, h2, h3⟩ := hin b h
    exact hr.hp.own i bx b c h2 h3 hb
  have hx2 : ∀ i j, invS src i = some j → β i = β' j := fun i j h => (hbe j i (invS_some h)).symm
  have cases_ : ∀ J bx, (putL src bs L)[J]? = some (some bx) → (J ∉ src ∧ L[J]? = some (some bx)) ∨ (∃ (j : Nat) (b1 b0 : Box), src[j]? = some J ∧ L[J]? = some (some b0) ∧ Lout[j]? = some b1 ∧ b1.ty.t = bx.ty.t ∧ b1.l = bx.l ∧ VxL (invS src) b1.es bx.es ∧ (bx.ty.ad = none ∨ bx.ty.ad = b0.ty.ad)) := fun J bx h => by
    rcases putL_get src bs L J bx (by omega) h with h1 | ⟨j, h1, h2⟩
    · exact .inl h1
    · obtain ⟨b1, k1, k2⟩ := hog j bx h2
      obtain ⟨b0, h0⟩ := hbx J (List.mem_of_getElem? h1)
      obtain ⟨k2, k3, k4, k5⟩ := k2
      refine .inr ⟨j, b1, b0, h1, h0, k1, k2, k3, k4, k5.imp id ?_⟩
      rintro ⟨i, b2, m1, m2, m3⟩
      rw [h1] at m1
      injection m1 with m1
      subst m1
      rw [h0] at m2
      injection m2 with m2
      injection m2 with m2
      rw [m2]; exact m3
  have getO : ∀ (j : Nat) (b1 : Box), Lout[j]? = some b1 → (someL Lout)[j]? = some (some b1) := fun j b1 h => someL_mk h
  have oldb : ∀ J bx, (putL src bs L)[J]? = some (some bx) → ∃ b0, L[J]? = some (some b0) := fun J bx h => by
    rcases cases_ J bx h with ⟨_, h3⟩ | ⟨j, b1, b0, _, h3, _⟩
    · exact ⟨_, h3⟩
    · exact ⟨_, h3⟩
  refine hr.later lat ⟨?_, ?_, ?_, hp'.fz, ?_, ?_⟩ ?_ ?_ ?_
  · intro J bx h
    rcases cases_ J bx h with ⟨h2, h3⟩ | ⟨j, b1, b0, h1, h0, h2, h3, h4, h5, _⟩
    · refine BoxR_later lat (fun b c hb => hp.block b ((hr.hp.bx J bx h3).lt hb) fun hi => ?_) (hr.hp.bx J bx h3)
      obtain ⟨i, b', c', k1, k2, k3⟩ := hin b hi
      have := hr.hp.inj J i b bx b' c c' h3 k2 hb k3
      subst this; exact h2 k1
    · have hl := VxL_length h5
      obtain ⟨q0, q⟩ := hp'.bx j b1 (getO j b1 h2)
      refine ⟨by omega, ?_⟩
      rcases q with ⟨q1, q2⟩ | ⟨b, Cp, cur, ds, q1, q2, q3, q4, q5, q6⟩
      · refine .inl ⟨by rw [← hbe j J h1]; exact q1, ?_⟩
        rw [q2] at hl
        exact List.eq_nil_of_length_eq_zero hl.symm
      · refine .inr ⟨b, Cp, cur, ds, by rw [← hbe j J h1]; exact q1, by rw [← h3]; exact q2, by rw [← h4]; exact q3, by rw [← hl]; exact q4, ?_, q6⟩
        rw [← hl, ← h4]
        exact VxL_sound hx2 h5 _ ds q5
  · intro J J' b bx bx' c c' h h' hb hb'
    obtain ⟨b0, h0⟩ := oldb J bx h
    obtain ⟨b0', h0'⟩ := oldb J' bx' h'
    exact hr.hp.inj J J' b b0 b0' c c' h0 h0' hb hb'
  · intro J bx b c h hb hs'
    rcases cases_ J bx h with ⟨h2, h3⟩ | ⟨j, b1, b0, h1, h0, h2, _⟩
    · rcases hS b hs' with h4 | h4 | h4
      · exact hr.hp.own J bx b c h3 hb h4
      · have := (hr.hp.bx J bx h3).lt hb; omega
      · obtain ⟨i, b', c', k1, k2, k3⟩ := hin b h4
        have := hr.hp.inj J i b bx b' c c' h3 k2 hb k3
        subst this; exact h2 k1
    · rw [← hbe j J h1] at hb
      exact hp'.own j b1 b c (getO j b1 h2) hb hs'
  · intro J hJ
    rw [putL_length] at hJ
    exact hr.hp.un J hJ
  · intro J bx q h hq
    rcases cases_ J bx h with ⟨h2, h3⟩ | ⟨j, b1, b0, h1, h0, h2, h3, h4, h5, h6⟩
    · exact hr.hp.ad J bx q h3 hq
    · rcases h6 with h6 | h6
      · rw [h6] at hq; cases hq
      · exact hr.hp.ad J b0 q h0 (by rw [← h6]; exact hq)
  · intro J bx b c h hb
    obtain ⟨b0, h0⟩ := oldb J bx h
    exact hr.own J b0 b c h0 hb
  · intro b hb
    rcases hS b hb with h1 | h1 | h1
    · exact hr.fz b h1
    · have := hr.pres.size; exact .inr (.inl (by omega))
    · obtain ⟨i, b', c', k1, k2, k3⟩ := hin b h1
      exact .inr (hr.own i b' b c' k2 k3).symm
  · refine ⟨hp.os.trans hr.pres.os, hp.tape.trans hr.pres.tape, hp.output.trans hr.pres.output, by have := hr.pres.size; have := hp.size; omega, fun b hb hd => ?_⟩
    have hsz := hr.pres.size
    refine (hp.block b (by omega) fun h => ?_).trans (hr.pres.block b hb hd)
    obtain ⟨i, b', c', k1, k2, k3⟩ := hin b h
    rcases hr.own i b' b c' k2 k3 with h1 | h1
    · exact hd h1
    · omega

/-- A call over boxes that all stay: the caller keeps their places. The results are data. -/
theorem AL_hstay (hT : CT P C) {x : Operand} {args : Array Operand} {ts : Array TypeId} {k : FuncId} {hargs : List V} {Lin Lout : List Box} {m : Nat} {res : List V} (src : List Nat) (bs : List Box)
    (hx : ev f x = .d (.fn k [])) (hc : Callable P k) (hp : HCall P k hargs Lin m none res Lout) (ha : VxL (srcOf (src.map some)) (args.toList.map (ev f)) hargs) (hln : src.length = Lin.length) (hm : m = Lin.length) (hnd : nodupS (src.map some) = true) (hB : BxI L (srcOf (src.map some)) 0 Lin)
    (hlo : Lin.length = Lout.length) (hO : BxP (invS src) L src Lout bs) (res' : List V) (hres : VxL (fun _ => none) res res') (hd : dstOk n dst = true)
    (h : AL P C n ops rest Q (updo f dst (retH res')) (putL src bs L)) : AL P C n ops (⟨dst, callV x args ts, ty, pos, after, none⟩ :: rest) Q f L := by
  intro a w β S hr
  refine wpList_plain rfl fun Kc hK => ?_
  have hv := rel_ev hr x
  rw [hx] at hv
  obtain ⟨cv, c1, c2⟩ := VR_fn hv
  have hcv : cv = [] := by
    have := (DCs_len _ _ _ c2).1
    simpa [Lay.lens] using this
  subst hcv
  unfold Oper.wp
  rw [call_run hc c1, Oper.upon_enter]
  have heq : (args.map a.eval ++ ([] : List Value).toArray) = (args.toList.map a.eval).toArray := by
    show args.map a.eval ++ #[] = _
    rw [Array.append_empty, ← Array.toList_map, Array.toArray_toList]
  rw [heq]
  refine (hp w S (viewB (srcOf (src.map some)) β) _ (hT.tab hr) (hr.hp.view hB (srcOf_nodup hnd) (srcOf_un hln)) (args_VR0 hr args.toList hargs ha fun j i e => viewB_some e)).mono ?_
  rintro en w' ⟨ys, β', S', M, rfl, ⟨g1, rfl⟩, g2, g3, g4, g5, g6, g7, g8⟩
  have hr' := hr.hstay hB hln hnd hlo hO g2 (fun j hj => g3 j (by omega)) g6 g7 g8
  exact hK _ _ (h _ _ _ _ (hr'.puto (dstOk_spec hd) (retH_VR (VxL_VR0 (fun j i e => by cases e) hres g1))))
end

/-! ### Boxes behind a place -/
def βo (o : Nat → Option (Nat × Nat)) (m : Nat) : Beta := fun j => if j < m then some (o j) else none
/-- A value that stands without what is read alone. -/
def V.free : V → Prop
  | .d (.c v) => Value.scalar v = true
  | .ref _ _ _ _ => True
  | .ptr _ _ _ _ => True
  | _ => False
theorem Pres.wid {D D' : Nat → Prop} {w0 w : World} (h : Pres D w0 w) (k : ∀ b, D b → D' b) : Pres D' w0 w := ⟨h.os, h.tape, h.output, h.size, fun b hb hd => h.block b hb fun h2 => hd (k b h2)⟩
theorem VC_free {β : Beta} {S S' : Nat → Prop} {w : World} {v : V} (hv : v.free) {cs : List Value} (h : VC β S w v cs) : VC β S' w v cs := by
  match v, hv with
  | .d (.c x), hv => simp only [VC] at h ⊢; unfold DC at h ⊢; exact h
  | .ref .., _ => simpa only [VC] using h
  | .ptr .., _ => simpa only [VC] using h
theorem VCs_free {β : Beta} {S S' : Nat → Prop} {w : World} : ∀ (vs : List V), (∀ v ∈ vs, v.free) → ∀ (fs : List Lay) (cs : List Value), VCs β S w fs vs cs → VCs β S' w fs vs cs
  | [], _, fs, cs, h => by simpa only [VCs] using h
  | v :: vs, hv, fs, cs, h => by
    simp only [VCs] at h ⊢
    obtain ⟨f, fr, c1, c2, e1, e2, e3, e4, e5⟩ := h
    exact ⟨f, fr, c1, c2, e1, e2, e3, VC_free (hv v (by simp)) e4, VCs_free vs (fun u hu => hv u (by simp [hu])) fr c2 e5⟩
theorem BoxR_free {β : Beta} {S S' : Nat → Prop} {w : World} {i : Nat} {bx : Box} (hf : ∀ v ∈ bx.es, v.free) (h : BoxR β S w i bx) : BoxR β S' w i bx := by
  obtain ⟨h0, h⟩ := h
  refine ⟨h0, ?_⟩
  rcases h with h | ⟨b, Cp, cur, ds, q1, q2, q3, q4, q5, q6⟩
  · exact .inl h
  · exact .inr ⟨b, Cp, cur, ds, q1, q2, q3, q4, VCs_free bx.es hf _ _ q5, q6⟩
theorem HeapR_free {β : Beta} {S S' : Nat → Prop} {w : World} {Ls : List Box} (hf : ∀ bx ∈ Ls, ∀ v ∈ bx.es, v.free) (h : HeapR β S w (someL Ls)) (hown : ∀ i bx b c, Ls[i]? = some bx → β i = some (some (b, c)) → ¬ S' b) (hfz : ∀ b, S' b → b < w.heap.size) : HeapR β S' w (someL Ls) :=
  ⟨fun i bx hi => BoxR_free (hf bx (List.mem_of_getElem? (someL_get hi))) (h.bx i bx hi), h.inj, fun i bx b c hi => hown i bx b c (someL_get hi), hfz, h.un, h.ad⟩
def blksO (o : Nat → Option (Nat × Nat)) (m : Nat) : List Nat := (List.range m).filterMap fun j => (o j).map (·.1)
theorem blksO_mem {o : Nat → Option (Nat × Nat)} {m b : Nat} : b ∈ blksO o m ↔ ∃ j, j < m ∧ ∃ c, o j = some (b, c) := by
  simp only [blksO, List.mem_filterMap, List.mem_range, Option.map_eq_some_iff, Prod.exists, exists_and_right, exists_eq_right]
/-- Boxes at known places, of scalars and of references to one another. -/
def Jbx {A : Type} (o : Nat → Option (Nat × Nat)) (m : Nat) (Ls : A → List Box) : Jx A where
  J a F w := HeapR (βo o m) (fun _ => False) w (someL (Ls a)) ∧ (Ls a).length = m ∧ F = blksO o m
  stab := fun a F w w' h hb => by
    obtain ⟨h1, h2, h3⟩ := h
    refine ⟨⟨fun i bx hi => BoxR_later (β := βo o m) (S := fun _ => False) (w := w) ⟨fun _ _ h => h, fun _ h => h, fun _ h => h.elim⟩ (fun b c hbc => hb b ?_) (h1.bx i bx hi), h1.inj, h1.own, fun _ h => h.elim, h1.un, h1.ad⟩, h2, h3⟩
    rw [h3, blksO_mem]
    have hi2 : i < m := by have := lt_of_get (someL_get hi); omega
    simp only [βo, if_pos hi2] at hbc
    injection hbc with hbc
    exact ⟨i, hi2, c, hbc⟩
  lt := fun a F w h b hb => by
    obtain ⟨h1, h2, h3⟩ := h
    rw [h3, blksO_mem] at hb
    obtain ⟨j, hj, c, hjo⟩ := hb
    have h4 := h1.bx j (Ls a)[j] (someL_mk (List.getElem?_eq_getElem (by omega)))
    exact h4.lt (b := b) (Cp := c) (by simp only [βo, if_pos hj, hjo])
def ptrO (o : Nat → Option (Nat × Nat)) (j : Nat) : Value := match o j with | some (b, _) => .pointer (some ⟨b, 0, none⟩) | none => .pointer none
theorem VR0_ptrO {o : Nat → Option (Nat × Nat)} {m j : Nat} {S : Nat → Prop} {w : World} {x : Value} (hj : j < m) (ho : ∃ q, o j = some q) (h : RD S w (.c (ptrO o j)) x) : VR0 (βo o m) S w (.ptr .one j 0 []) x := by
  obtain ⟨⟨b, c⟩, ho⟩ := ho
  obtain ⟨h1, h2⟩ := h
  unfold DC at h1
  refine .inr ⟨?_, ?_⟩
  · simp only [VC]
    refine ⟨b, c, 0, .one, by simp only [βo, if_pos hj, ho], rfl, ?_⟩
    rw [h1.1]
    simp [ptrO, ho]
  · rw [← h2]; rfl
/-- What stands behind a place, changed by a function over boxes. -/
theorem FCall_of_H {P : Program} {k : FuncId} {A : Type} {o : Nat → Option (Nat × Nat)} {m : Nat} {Ls : A → List Box} {ds : List D} {ps : List Nat} {a0 a1 : A} (hps : ∀ j ∈ ps, j < m ∧ ∃ q, o j = some q) (hl : (Ls a0).length = m) (hl1 : (Ls a1).length = m)
    (hf0 : ∀ bx ∈ Ls a0, ∀ v ∈ bx.es, v.free) (hf1 : ∀ bx ∈ Ls a1, ∀ v ∈ bx.es, v.free)
    (h : HCall P k (ds.map V.d ++ ps.map fun j => V.ptr .one j 0 []) (Ls a0) m none [] (Ls a1)) : FCall P k (Jbx o m Ls) (ds ++ ps.map fun j => D.c (ptrO o j)) a0 a1 := by
  intro w S vs F hS hT hall ⟨hJ, hJl, hJF⟩ hF
  have hinb : ∀ b, inBk (Ls a0) (βo o m) b → b ∈ F := fun b ⟨j, bx, c, h1, h2⟩ => by
    have hj : j < m := by have := lt_of_get h1; omega
    simp only [βo, if_pos hj] at h2
    injection h2 with h2
    rw [hJF, blksO_mem]
    exact ⟨j, hj, c, h2⟩
  have hh : HeapR (βo o m) S w (someL (Ls a0)) := HeapR_free hf0 hJ (fun i bx b c h1 h2 => hF b (hinb b ⟨i, bx, c, h1, h2⟩)) hS
  have key : ∀ (ds : List D) (ps : List Nat), (∀ j ∈ ps, j < m ∧ ∃ q, o j = some q) → ∀ vs, All2 (RD S w) (ds ++ ps.map fun j => D.c (ptrO o j)) vs → All2 (VR0 (βo o m) S w) (ds.map V.d ++ ps.map fun j => V.ptr .one j 0 []) vs := by
    intro ds
    induction ds with
    | nil =>
      intro ps
      induction ps with
      | nil => intro _ vs h; cases h; exact .nil
      | cons p r ih => intro hp vs h; cases h with | cons k1 k2 => exact .cons (VR0_ptrO (hp p (by simp)).1 (hp p (by simp)).2 k1) (ih (fun j hj => hp j (by simp [hj])) _ k2)
    | cons d r ih => intro ps hp vs h; cases h with | cons k1 k2 => exact .cons (VR0_of_RD k1) (ih ps hp _ k2)
  refine (h w S (βo o m) vs hT hh (key ds ps hps vs hall)).mono ?_
  rintro en w' ⟨ys, β', S', M, rfl, ⟨g1, rfl⟩, g2, g3, g4, g5, g6, g7, g8⟩
  have hβ : β' = βo o m := by
    funext j
    by_cases hj : j < m
    · exact g3 j hj
    · rw [g2.un j (by simp; omega)]; simp [βo, hj]
  subst hβ
  exact ⟨_, F, rfl, ⟨HeapR_free hf1 g2 (fun _ _ _ _ _ _ h => h) (fun _ h => h.elim), hl1, hJF⟩, fun b hb => .inl hb, g8.wid hinb⟩
/-- A function that acts behind a place through a function value, over boxes. -/
theorem HCall_of_F {P : Program} {k kk : FuncId} {A : Type} {m : Nat} {Ls : A → List Box} {pre : List D} {ps : List Nat} {a0 a1 : A} (hps : ∀ j ∈ ps, ∃ bx, (Ls a0)[j]? = some bx ∧ bx.es ≠ []) (hl : (Ls a0).length = m)
    (hf0 : ∀ bx ∈ Ls a0, ∀ v ∈ bx.es, v.free) (hf1 : ∀ bx ∈ Ls a1, ∀ v ∈ bx.es, v.free)
    (h : ∀ o : Nat → Option (Nat × Nat), (∀ j ∈ ps, j < m ∧ ∃ q, o j = some q) → FCall P k (Jbx o m Ls) (pre ++ [.c (.func (.func kk) #[] (ps.map (ptrO o)).toArray)]) a0 a1) :
    HCall P k (pre.map V.d ++ [.fn kk (ps.map fun j => V.ptr .one j 0 [])]) (Ls a0) m none [.any] (Ls a1) := by
  intro w S β xs hT hh ha
  have hsome : ∀ j, j < m → ∃ q, β j = some q := fun j hj => by
    have := hh.bx j (Ls a0)[j] (someL_mk (List.getElem?_eq_getElem (by omega)))
    rcases this.2 with ⟨h1, _⟩ | ⟨b, Cp, _, _, h1, _⟩
    · exact ⟨_, h1⟩
    · exact ⟨_, h1⟩
  let o : Nat → Option (Nat × Nat) := fun j => match β j with | some q => q | none => none
  have hβ : β = βo o m := by
    funext j
    by_cases hj : j < m
    · obtain ⟨q, hq⟩ := hsome j hj
      simp only [βo, if_pos hj, o, hq]
    · rw [hh.un j (by simp; omega)]; simp [βo, hj]
  have hpo : ∀ j ∈ ps, j < m ∧ ∃ q, o j = some q := fun j hj => by
    obtain ⟨bx, h1, h2⟩ := hps j hj
    have hjm : j < m := by have := lt_of_get h1; omega
    refine ⟨hjm, ?_⟩
    have := hh.bx j bx (someL_mk h1)
    rcases this.2 with ⟨_, h3⟩ | ⟨b, Cp, _, _, h3, _⟩
    · exact absurd h3 h2
    · exact ⟨(b, Cp), by simp only [o, h3]⟩
  have hJF : ∀ b, b ∈ blksO o m ↔ inBk (Ls a0) β b := fun b => by
    rw [blksO_mem]
    constructor
    · rintro ⟨j, hj, c, h1⟩
      exact ⟨j, (Ls a0)[j], c, List.getElem?_eq_getElem (by omega), by rw [hβ]; simp only [βo, if_pos hj, h1]⟩
    · rintro ⟨j, bx, c, h1, h2⟩
      have hj : j < m := by have := lt_of_get h1; omega
      rw [hβ] at h2
      simp only [βo, if_pos hj] at h2
      injection h2 with h2
      exact ⟨j, hj, c, h2⟩
  have hptr : ∀ (ps : List Nat) (cs : List Value), (∀ j ∈ ps, j < m ∧ ∃ q, o j = some q) → VCs β S w (List.replicate ps.length .one) (ps.map fun j => V.ptr .one j 0 []) cs → cs = ps.map (ptrO o) := by
    intro ps
    induction ps with
    | nil => intro cs _ h; simp only [List.map_nil, VCs] at h; simpa using h.2
    | cons p r ih =>
      intro cs hp h
      simp only [List.length_cons, List.replicate_succ, List.map_cons, VCs] at h
      obtain ⟨f, fr, c1, c2, e1, rfl, e3, e4, e5⟩ := h
      injection e1 with e1 e1'
      subst e1'
      rw [ih c2 (fun j hj => hp j (by simp [hj])) e5]
      simp only [VC] at e4
      obtain ⟨b, c, o', l', k1, k2, k3⟩ := e4
      obtain ⟨hpm, _⟩ := hp p (by simp)
      rw [hβ] at k1
      simp only [βo, if_pos hpm] at k1
      injection k1 with k1
      have k2 : o' = 0 := by
        have : (some (0, Lay.one) : Option (Nat × Lay)) = some (o', l') := k2
        injection this with this
        injection this with this
        exact this.symm
      subst k2
      rw [k3]
      simp [ptrO, k1]
  have hrd : ∀ (pre : List D) (xs : List Value), All2 (VR0 β S w) (pre.map V.d ++ [.fn kk (ps.map fun j => V.ptr .one j 0 [])]) xs → All2 (RD S w) (pre ++ [.c (.func (.func kk) #[] (ps.map (ptrO o)).toArray)]) xs := by
    intro pre
    induction pre with
    | nil =>
      intro xs h
      cases h with
      | cons k1 k2 =>
        cases k2
        refine .cons ?_ .nil
        rcases k1 with k1 | ⟨k1, k2⟩
        · cases k1
        · simp only [VC, List.length_map] at k1
          obtain ⟨cv, e1, e2⟩ := k1
          rw [hptr ps cv hpo e2] at e1
          refine ⟨?_, k2⟩
          rw [e1]
          unfold DC
          refine ⟨rfl, ?_⟩
          simp only [Value.scalar]
          try rfl
    | cons d r ih => intro xs h; cases h with | cons k1 k2 => exact .cons (RD_of_VR0 k1) (ih _ k2)
  have hJ : (Jbx o m Ls).J a0 (blksO o m) w := ⟨hβ ▸ HeapR_free hf0 hh (fun _ _ _ _ _ _ h => h) (fun _ h => h.elim), hl, rfl⟩
  refine (h o hpo w S xs (blksO o m) hh.fz hT (hrd pre xs ha) hJ fun b hb hs => ?_).mono ?_
  · obtain ⟨j, bx, c, h1, h2⟩ := (hJF b).1 hb
    exact hh.own j bx b c (someL_mk h1) h2 hs
  · rintro en w' ⟨x, F', rfl, ⟨g1, g2, g3⟩, g4, g5⟩
    have lat : ∀ b, S b → b < w'.heap.size := fun b hb => by have := hh.fz b hb; have := g5.size; omega
    refine ⟨[x], β, S, [], rfl, ⟨.cons (.inl rfl) .nil, rfl⟩, ?_, fun _ _ => rfl, fun i bx b c h1 h2 => .inl ((hJF b).1 ?_), by simp, fun b hb => hb, fun b hb => .inl hb, g5.wid fun b hb => (hJF b).1 hb⟩
    · rw [hβ]
      refine HeapR_free hf1 g1 (fun i bx b c h1 h2 hs => ?_) lat
      have hi : i < m := by have := lt_of_get h1; omega
      have h3 : b ∈ blksO o m := by
        rw [blksO_mem]
        simp only [βo, if_pos hi] at h2
        injection h2 with h2
        exact ⟨i, hi, c, h2⟩
      obtain ⟨j, bx', c', k1, k2⟩ := (hJF b).1 h3
      exact hh.own j bx' b c' (someL_mk k1) k2 hs
    · have hi : i < m := by have := lt_of_get h1; omega
      rw [hβ] at h2
      simp only [βo, if_pos hi] at h2
      injection h2 with h2
      rw [blksO_mem]
      exact ⟨i, hi, c, h2⟩
theorem VxL_ds {r : Nat → Option Nat} {xs : List V} {ys : List D} (h : xs = ys.map V.d) : VxL r xs (ys.map V.d) := by subst h; exact VxL_d ys
theorem ptrO_scalar (o : Nat → Option (Nat × Nat)) (j : Nat) : Value.scalar (ptrO o j) = true := by unfold ptrO; split <;> rfl
theorem free_strs (xs : List ByteArray) : ∀ v ∈ (strs xs).map V.d, v.free := by
  intro v hv
  simp only [strs, List.map_map, List.mem_map] at hv
  obtain ⟨x, _, rfl⟩ := hv
  rfl
theorem free_ints (xs : List Int) : ∀ v ∈ (ints xs).map V.d, v.free := by
  intro v hv
  simp only [ints, List.map_map, List.mem_map] at hv
  obtain ⟨x, _, rfl⟩ := hv
  rfl
end Go.Eng

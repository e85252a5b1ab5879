/- The engine: states told anew at the head of a loop; nil in a field. -/
import Derived.Test.YtleahipnknainaaDoorEng10
set_option linter.unusedVariables false
set_option linter.unusedSimpArgs false
namespace Go.Eng

/-- Where box j of the new heap stood in the old one. -/
def srcOf (src : List (Option Nat)) (j : Nat) : Option Nat := match src[j]? with | some o => o | none => none

mutual
inductive Vw (L : Hp) (src : List (Option Nat)) : V → V → Prop
  | any {v : V} : Vw L src v .any
  | rd {v : V} {x : D} : Reads L (fun i => ∀ j, srcOf src j ≠ some i) v x → Vw L src v (.d x)
  | agg {fs : List Lay} {vs vs' : List V} : VwL L src vs vs' → Vw L src (.agg fs vs) (.agg fs vs')
  | ref {l : Lay} {i j off m : Nat} : srcOf src j = some i → Vw L src (.ref l i off m) (.ref l j off m)
  | ptr {l : Lay} {i j k : Nat} {p : List Nat} : srcOf src j = some i → Vw L src (.ptr l i k p) (.ptr l j k p)
  | fn {k : FuncId} {vs vs' : List V} : VwL L src vs vs' → Vw L src (.fn k vs) (.fn k vs')
inductive VwL (L : Hp) (src : List (Option Nat)) : List V → List V → Prop
  | nil : VwL L src [] []
  | cons {v v' : V} {vs vs' : List V} : Vw L src v v' → VwL L src vs vs' → VwL L src (v :: vs) (v' :: vs')
end
theorem VwL_length {L : Hp} {src : List (Option Nat)} : ∀ {vs vs' : List V}, VwL L src vs vs' → vs.length = vs'.length
  | _, _, .nil => rfl
  | _, _, .cons _ h => by simp [VwL_length h]
theorem VwL_d {L : Hp} {src : List (Option Nat)} : ∀ xs : List D, VwL L src (xs.map V.d) (xs.map V.d)
  | [] => .nil
  | x :: xs => .cons (.rd .d) (VwL_d xs)
theorem VwL_any {L : Hp} {src : List (Option Nat)} : ∀ xs : List V, VwL L src xs (List.replicate xs.length .any)
  | [] => .nil
  | x :: xs => .cons .any (VwL_any xs)

section
variable {β β2 : Beta} {S S' : Nat → Prop} {w : World} {L : Hp} {src : List (Option Nat)}
mutual
theorem Vw_sound (hp : HeapR β S w L) (su : ∀ b, S b → S' b) (hF : ∀ i bx b c, (∀ j, srcOf src j ≠ some i) → L[i]? = some (some bx) → β i = some (some (b, c)) → S' b) (h2 : ∀ j i, srcOf src j = some i → β2 j = β i) :
    ∀ {v v' : V}, Vw L src v v' → ∀ cs, VC β S w v cs → VC β2 S' w v' cs
  | v, _, .any, cs, h => by
    simp only [VC]
    exact VC_scalar v cs h
  | _, _, .rd k, cs, h => by
    simp only [VC]
    exact Reads_sound hp su hF k cs h
  | _, _, .agg k, cs, h => by
    simp only [VC] at h ⊢
    exact VwL_sound hp su hF h2 k _ cs h
  | _, _, .ref (j := j) (i := i) k, cs, h => by
    simp only [VC, h2 j i k] at h ⊢
    exact h
  | _, _, .ptr (j := j) (i := i) k, cs, h => by
    simp only [VC, h2 j i k] at h ⊢
    exact h
  | _, _, .fn k, cs, h => by
    simp only [VC] at h ⊢
    obtain ⟨xs, h3, h4⟩ := h
    refine ⟨xs, h3, ?_⟩
    rw [← VwL_length k]
    exact VwL_sound hp su hF h2 k _ xs h4
theorem VwL_sound (hp : HeapR β S w L) (su : ∀ b, S b → S' b) (hF : ∀ i bx b c, (∀ j, srcOf src j ≠ some i) → L[i]? = some (some bx) → β i = some (some (b, c)) → S' b) (h2 : ∀ j i, srcOf src j = some i → β2 j = β i) :
    ∀ {vs vs' : List V}, VwL L src vs vs' → ∀ fs cs, VCs β S w fs vs cs → VCs β2 S' w fs vs' cs
  | _, _, .nil, fs, cs, h => by simpa only [VCs] using h
  | _, _, .cons k1 k2, fs, cs, h => by
    simp only [VCs] at h ⊢
    obtain ⟨f, fr, c1, c2, e1, e2, e3, e4, e5⟩ := h
    exact ⟨f, fr, c1, c2, e1, e2, e3, Vw_sound hp su hF h2 k1 c1 e4, VwL_sound hp su hF h2 k2 fr c2 e5⟩
end
theorem Vw_isAgg {v v' : V} (h : Vw L src v v') (hn : v' ≠ .any) : v.isAgg = v'.isAgg := by
  cases h with
  | any => exact absurd rfl hn
  | rd k => exact Reads_isAgg k
  | _ => rfl
end

def BxTo (L : Hp) (src : List (Option Nat)) : Nat → Hp → Prop
  | _, [] => True
  | j, none :: r => BxTo L src (j + 1) r
  | j, some b2 :: r => (∃ i b1, srcOf src j = some i ∧ L[i]? = some (some b1) ∧ b1.ty = b2.ty ∧ b1.l = b2.l ∧ VwL L src b1.es b2.es) ∧ BxTo L src (j + 1) r
theorem BxTo_get {L : Hp} {src : List (Option Nat)} : ∀ (L2 : Hp) (j0 : Nat), BxTo L src j0 L2 → ∀ j b2, L2[j]? = some (some b2) → ∃ i b1, srcOf src (j0 + j) = some i ∧ L[i]? = some (some b1) ∧ b1.ty = b2.ty ∧ b1.l = b2.l ∧ VwL L src b1.es b2.es
  | [], j0, _, j, b2, h => by simp at h
  | none :: r, j0, k, j, b2, h => by
    cases j with
    | zero => simp at h
    | succ j =>
      simp at h
      have := BxTo_get r (j0 + 1) k j b2 h
      rwa [show j0 + (j + 1) = j0 + 1 + j by omega]
  | some b :: r, j0, k, j, b2, h => by
    cases j with
    | zero => simp at h; subst h; exact k.1
    | succ j =>
      simp at h
      have := BxTo_get r (j0 + 1) k.2 j b2 h
      rwa [show j0 + (j + 1) = j0 + 1 + j by omega]

def SlTo (L : Hp) (src : List (Option Nat)) (f : Fr) : List (Nat × V) → Prop
  | [] => True
  | (i, v) :: r => Vw L src (f i) v ∧ SlTo L src f r

def nodupS : List (Option Nat) → Bool
  | [] => true
  | none :: r => nodupS r
  | some i :: r => !(r.contains (some i)) && nodupS r
theorem nodupS_inj : ∀ (src : List (Option Nat)), nodupS src = true → ∀ j j' i, srcOf src j = some i → srcOf src j' = some i → j = j'
  | [], _, j, j', i, h, _ => by simp [srcOf] at h
  | o :: r, hn, j, j', i, h, h' => by
    have hr : nodupS r = true := by
      cases o with
      | none => exact hn
      | some i => simp only [nodupS, Bool.and_eq_true] at hn; exact hn.2
    have hmem : ∀ q, srcOf r q = some i → some i ∈ r := by
      intro q hq
      unfold srcOf at hq
      split at hq
      · rename_i o' e
        subst hq
        exact List.mem_of_getElem? e
      · cases hq
    have hne : o = some i → ∀ q, srcOf r q ≠ some i := by
      rintro rfl q hq
      simp only [nodupS, Bool.and_eq_true] at hn
      have := hmem q hq
      simp [this] at hn
    cases j with
    | zero =>
      cases j' with
      | zero => rfl
      | succ j' =>
        have h0 : o = some i := by simpa [srcOf] using h
        exact absurd (by simpa [srcOf] using h') (hne h0 j')
    | succ j =>
      cases j' with
      | zero =>
        have h0 : o = some i := by simpa [srcOf] using h'
        exact absurd (by simpa [srcOf] using h) (hne h0 j)
      | succ j' =>
        have := nodupS_inj r hr j j' i (by simpa [srcOf] using h) (by simpa [srcOf] using h')
        omega

section
variable {P : Program} {C : Cx} {n : Nat} {f : Fr} {L : Hp} {Q : AQ}

/-- The state told anew: the slots that matter, the boxes that stay (src: where each stood); all other boxes are read alone from here on. -/
theorem Wk_to {Z : Fr → Hp → Prop} (src : List (Option Nat)) (slots : List (Nat × V)) (L2 : Hp) (hlen : src.length = L2.length) (hnd : nodupS src = true) (hb : BxTo L src 0 L2) (hs : SlTo L src f slots) (h : Z (frOf slots) L2) : Wk C n f L Z := by
  intro a w β S hr
  let β2 : Beta := fun j => match srcOf src j with | some i => β i | none => none
  let S' : Nat → Prop := fun b => S b ∨ ∃ i bx c, (∀ j, srcOf src j ≠ some i) ∧ L[i]? = some (some bx) ∧ β i = some (some (b, c))
  have su : ∀ b, S b → S' b := fun _ h => .inl h
  have hF : ∀ i bx b c, (∀ j, srcOf src j ≠ some i) → L[i]? = some (some bx) → β i = some (some (b, c)) → S' b := fun i bx b c h1 h2 h3 => .inr ⟨i, bx, c, h1, h2, h3⟩
  have h2 : ∀ j i, srcOf src j = some i → β2 j = β i := fun j i e => by simp only [β2, e]
  have old : ∀ j b2, L2[j]? = some (some b2) → ∃ i b1, srcOf src j = some i ∧ L[i]? = some (some b1) ∧ b1.ty = b2.ty ∧ b1.l = b2.l ∧ VwL L src b1.es b2.es := fun j b2 hj => by
    have := BxTo_get L2 0 hb j b2 hj
    simpa using this
  refine ⟨_, _, β2, S', ⟨hr.df, hr.sz, ?_, ⟨?_, ?_, ?_, ?_, ?_⟩, ?_, ?_, fun b hb => su b (hr.s0 b hb), hr.pres⟩, h⟩
  · have key : ∀ (sl : List (Nat × V)), SlTo L src f sl → ∀ i, VR β2 S' w (frOf sl i) (a.tmps.getD i undef) := by
      intro sl
      induction sl with
      | nil => intro _ i; exact VR_any ..
      | cons q sl ih =>
        intro hq i
        show VR β2 S' w (upd (frOf sl) q.1 q.2 i) _
        by_cases e : i = q.1
        · subst e
          rw [upd_self]
          have hv := hr.fr q.1
          have hw := hq.1
          by_cases hany : q.2 = .any
          · rw [hany]; exact VR_any ..
          · have hk : (f q.1).known = true := by
              generalize f q.1 = v0 at hw
              generalize q.2 = v1 at hw hany
              cases hw with
              | any => exact absurd rfl hany
              | rd k => exact reads_notup k
              | _ => rfl
            have hv0 := known_VR0 hv hk
            rcases hv0 with hv0 | ⟨hv0, e⟩
            · rw [hv0] at hk; cases hk
            · exact VR_of_VR0 (.inr ⟨Vw_sound hr.hp su hF h2 hw _ hv0, by rw [← e, Vw_isAgg hw hany]⟩)
        · rw [upd_ne _ _ _ _ e]
          exact ih hq.2 i
    exact key slots hs
  · intro j b2 hj
    obtain ⟨i, b1, k1, k2, k3, k4, k5⟩ := old j b2 hj
    have hl := VwL_length k5
    obtain ⟨q0, q⟩ := hr.hp.bx i b1 k2
    refine ⟨by omega, ?_⟩
    rcases q with ⟨q1, q2⟩ | ⟨b, Cp, cur, ds, q1, q2, q3, q4, q5, q6⟩
    · refine .inl ⟨by rw [h2 j i k1]; exact q1, ?_⟩
      rw [q2] at hl
      exact List.eq_nil_of_length_eq_zero hl.symm
    · refine .inr ⟨b, Cp, cur, ds, by rw [h2 j i k1]; exact q1, by rw [← k3]; exact q2, by rw [← k4]; exact q3, by rw [← hl]; exact q4, ?_, q6⟩
      rw [← hl, ← k4]
      exact VwL_sound hr.hp su hF h2 k5 _ ds q5
  · intro j j' b bx bx' c c' hj hj' hbj hbj'
    obtain ⟨i, b1, k1, k2, _⟩ := old j bx hj
    obtain ⟨i', b1', k1', k2', _⟩ := old j' bx' hj'
    rw [h2 j i k1] at hbj
    rw [h2 j' i' k1'] at hbj'
    have := hr.hp.inj i i' b b1 b1' c c' k2 k2' hbj hbj'
    subst this
    exact nodupS_inj src hnd j j' i k1 k1'
  · rintro j bx b c hj hbj (hs | ⟨i', bx', c', hni, hL, hbi⟩)
    · obtain ⟨i, b1, k1, k2, _⟩ := old j bx hj
      rw [h2 j i k1] at hbj
      exact hr.hp.own i b1 b c k2 hbj hs
    · obtain ⟨i, b1, k1, k2, _⟩ := old j bx hj
      rw [h2 j i k1] at hbj
      have := hr.hp.inj i i' b b1 bx' c c' k2 hL hbj hbi
      subst this
      exact hni j k1
  · rintro b (hs | ⟨i', bx', c', hni, hL, hbi⟩)
    · exact hr.hp.fz b hs
    · exact (hr.hp.bx i' bx' hL).lt hbi
  · intro j hj
    show (match srcOf src j with | some i => β i | none => none) = none
    have : srcOf src j = none := by
      unfold srcOf
      rw [List.getElem?_eq_none (by omega)]
    rw [this]
  · intro j bx b c hj hbj
    obtain ⟨i, b1, k1, k2, _⟩ := old j bx hj
    rw [h2 j i k1] at hbj
    exact hr.own i b1 b c k2 hbj
  · rintro b (hs | ⟨i', bx', c', hni, hL, hbi⟩)
    · exact hr.fz b hs
    · exact .inr (hr.own i' bx' b c' hL hbi).symm

/-- A nil slice in a box, seen as an empty box. -/
theorem Wk_nil_box {Z : Fr → Hp → Prop} (i k : Nat) (p : List Nat) (e : TypeId) (l : Lay) {bx : Box} {e0 e1 : V} {o : Nat} {l' : Lay} (hL : L[i]? = some (some bx)) (he : bx.es[k]? = some e0) (hp : e0.at? bx.l p = some (o, l', nilsl)) (hl1 : l'.len = 1) (m : Nat) (hm : L.length = m)
    (hput : e0.put? p (.ref l m 0 0) = some e1) (h : Z f (L.set i (some { bx with es := bx.es.set k e1 }) ++ [some ⟨e, l, []⟩])) : Wk C n f L Z := by
  subst hm
  intro a w β S hr
  have hr' := hr.virt e l
  have lat : Later β S w (setβ β L.length none) S w := later_new (hr.hp.un _ (Nat.le_refl _)) fun _ _ => rfl
  have hi : i < L.length := lt_of_get hL
  have hset : (L ++ [some (⟨e, l, []⟩ : Box)]).set i (some { bx with es := bx.es.set k e1 }) = L.set i (some { bx with es := bx.es.set k e1 }) ++ [some ⟨e, l, []⟩] := by rw [List.set_append_left _ _ hi]
  rw [← hset] at h
  have cases_ : ∀ j b', ((L ++ [some (⟨e, l, []⟩ : Box)]).set i (some { bx with es := bx.es.set k e1 }))[j]? = some (some b') → (j ≠ i ∧ (L ++ [some (⟨e, l, []⟩ : Box)])[j]? = some (some b')) ∨ (j = i ∧ b' = { bx with es := bx.es.set k e1 }) := fun j b' hj => by
    rw [List.getElem?_set] at hj
    by_cases e' : i = j
    · subst e'
      rw [if_pos rfl, if_pos (by simp; omega)] at hj
      exact .inr ⟨rfl, by injection hj with hj; injection hj with hj; exact hj.symm⟩
    · rw [if_neg e'] at hj
      exact .inl ⟨fun h => e' h.symm, hj⟩
  have live : ∀ j b', ((L ++ [some (⟨e, l, []⟩ : Box)]).set i (some { bx with es := bx.es.set k e1 }))[j]? = some (some b') → ∃ b'', (L ++ [some (⟨e, l, []⟩ : Box)])[j]? = some (some b'') := fun j b' hj => by
    rcases cases_ j b' hj with ⟨_, h⟩ | ⟨rfl, _⟩
    · exact ⟨_, h⟩
    · exact ⟨bx, by rw [List.getElem?_append_left hi]; exact hL⟩
  refine ⟨f, _, setβ β L.length none, S, ⟨hr'.df, hr'.sz, hr'.fr, ⟨?_, ?_, ?_, hr'.hp.fz, ?_⟩, ?_, hr'.fz, hr'.s0, hr'.pres⟩, h⟩
  · intro j b' hj
    rcases cases_ j b' hj with ⟨_, hj'⟩ | ⟨rfl, rfl⟩
    · exact hr'.hp.bx j b' hj'
    · obtain ⟨q0, q⟩ := hr.hp.bx j bx hL
      refine ⟨by simpa using q0, ?_⟩
      rcases q with ⟨q1, q2⟩ | ⟨b, Cp, cur, ds, q1, q2, q3, q4, q5, q6⟩
      · rw [q2] at he; simp at he
      · obtain ⟨d1, dm, d3, r1, r2, r3, r4, r5⟩ := VCs_get bx.es _ ds k bx.l e0 (VCs_later lat _ _ _ q5) (get_rep _ (lt_of_get he)) he
        obtain ⟨c1, c2, c3, rfl, s2, s3, s4, s5⟩ := VC_at p e0 bx.l dm o l' nilsl r4 r3 hp
        have hc2 : c2 = [.slice none 0 0] := by
          simp only [VC, DC] at s4
          exact s4.1
        subst hc2
        have hnew := s5 (.ref l L.length 0 0) e1 [.slice none 0 0] hput (by unfold VC; exact .inl ⟨setβ_self _ _ _, rfl, rfl, rfl⟩) (by simp [hl1])
        have := r5 e1 _ hnew r3
        rw [← r1] at this
        exact .inr ⟨b, Cp, cur, ds, by rw [setβ_ne _ _ (by omega)]; exact q1, q2, q3, by simpa using q4, by simpa using this, q6⟩
  · intro j j' b b1 b2 c c' hj hj' hb hb'
    obtain ⟨y1, h1⟩ := live j b1 hj
    obtain ⟨y2, h2⟩ := live j' b2 hj'
    exact hr'.hp.inj j j' b y1 y2 c c' h1 h2 hb hb'
  · intro j b1 b c hj hb
    obtain ⟨y1, h1⟩ := live j b1 hj
    exact hr'.hp.own j y1 b c h1 hb
  · intro j hj
    exact hr'.hp.un j (by simpa using hj)
  · intro j b1 b c hj hb
    obtain ⟨y1, h1⟩ := live j b1 hj
    exact hr'.own j y1 b c h1 hb
end
end Go.Eng

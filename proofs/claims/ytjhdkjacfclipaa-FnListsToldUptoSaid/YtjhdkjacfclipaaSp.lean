/- The order of right terms is linear; sorted lists are one. -/
import Derived.Test.YtjhdkjacfclipaaSo
set_option linter.unusedVariables false
set_option linter.unusedSimpArgs false
namespace Go.Eng
def thn (x y : Int) : Int := if x ≠ 0 then x else y
def Tr3 (x y z : Int) : Prop := (x ≤ 0 → y ≤ 0 → z ≤ 0) ∧ (x ≤ 0 → y ≤ 0 → z = 0 → x = 0 ∧ y = 0) ∧ (x = 0 → y = 0 → z = 0)
theorem Tr3.lex {x y z x' y' z' : Int} (h : Tr3 x y z) (h' : x = 0 → y = 0 → Tr3 x' y' z') : Tr3 (thn x x') (thn y y') (thn z z') := by
  obtain ⟨h1, h2, h3⟩ := h
  unfold thn
  by_cases hx : x = 0
  · by_cases hy : y = 0
    · have hz := h3 hx hy
      subst hx; subst hy; subst hz
      simpa using h' rfl rfl
    · have hz : y < 0 → z < 0 := fun hlt => by
        have a := h1 (by omega) (by omega)
        by_cases e : z = 0
        · have := (h2 (by omega) (by omega) e).2; omega
        · omega
      subst hx
      simp only [ne_eq, not_true_eq_false, if_false, hy, not_false_eq_true, if_true]
      refine ⟨fun a b => ?_, fun a b c => ?_, fun a b => absurd b hy⟩
      · have := hz (by omega); rw [if_pos (by omega)]; omega
      · have := hz (by omega); rw [if_pos (by omega)] at c; omega
  · have hz : x < 0 → y ≤ 0 → z < 0 := fun hlt hy => by
      have a := h1 (by omega) hy
      by_cases e : z = 0
      · have := (h2 (by omega) hy e).1; omega
      · omega
    simp only [ne_eq, hx, not_false_eq_true, if_true]
    refine ⟨fun a b => ?_, fun a b c => ?_, fun a b => absurd a hx⟩
    · have hy : y ≤ 0 := by by_cases e : y = 0 <;> simp [e] at b <;> omega
      have := hz (by omega) hy; rw [if_pos (by omega)]; omega
    · have hy : y ≤ 0 := by by_cases e : y = 0 <;> simp [e] at b <;> omega
      have := hz (by omega) hy; rw [if_pos (by omega)] at c; omega
theorem thn_neg {x y x' y' : Int} (h : x' = -x) (h' : x = 0 → y' = -y) : thn x' y' = - thn x y := by
  unfold thn
  by_cases e : x = 0
  · have := h' e; simp [h, e, this]
  · have : x' ≠ 0 := by omega
    simp [e, this, h]
theorem thn_zero {x y : Int} : thn x y = 0 ↔ x = 0 ∧ y = 0 := by
  unfold thn
  by_cases e : x = 0 <;> simp [e]
theorem cI_tr (a b c : Int) : Tr3 (cI a b) (cI b c) (cI a c) := by
  unfold Tr3 cI
  refine ⟨?_, ?_, ?_⟩ <;> (repeat' split) <;> omega
theorem cI_neg (a b : Int) : cI b a = - cI a b := by
  unfold cI; (repeat' split) <;> omega
/-! Texts -/
theorem bl_asym : ∀ (a b : List UInt8), Op.bytesLess a b = true → Op.bytesLess b a = false
  | [], [], h => by simp [Op.bytesLess] at h
  | [], y :: b, _ => by simp [Op.bytesLess]
  | x :: a, [], h => by simp [Op.bytesLess] at h
  | x :: a, y :: b, h => by
    simp only [Op.bytesLess, Bool.or_eq_true, Bool.and_eq_true, decide_eq_true_eq, beq_iff_eq] at h ⊢
    rcases h with h | ⟨rfl, h⟩
    · have h1 : ¬ y < x := by exact fun h2 => absurd h (by exact UInt8.not_lt.2 (UInt8.le_of_lt h2))
      have h2 : y ≠ x := fun e => by subst e; exact absurd h (UInt8.lt_irrefl _)
      simp [h1, h2]
    · simp [bl_asym a b h]
theorem bl_tri : ∀ (a b : List UInt8), Op.bytesLess a b = false → Op.bytesLess b a = false → a = b
  | [], [], _, _ => rfl
  | [], y :: b, h, _ => by simp [Op.bytesLess] at h
  | x :: a, [], _, h => by simp [Op.bytesLess] at h
  | x :: a, y :: b, h1, h2 => by
    simp only [Op.bytesLess, Bool.or_eq_false_iff, Bool.and_eq_false_iff, decide_eq_false_iff_not, beq_eq_false_iff_ne] at h1 h2
    have hxy : x = y := by
      have k1 := UInt8.not_lt.1 h1.1
      have k2 := UInt8.not_lt.1 h2.1
      exact UInt8.le_antisymm k2 k1
    subst hxy
    have h3 := h1.2.resolve_left (by simp)
    have h4 := h2.2.resolve_left (by simp)
    rw [bl_tri a b h3 h4]
theorem bl_trans : ∀ (a b c : List UInt8), Op.bytesLess a b = true → Op.bytesLess b c = true → Op.bytesLess a c = true
  | [], [], c, h, _ => by simp [Op.bytesLess] at h
  | _, y :: b, [], _, h => by simp [Op.bytesLess] at h
  | [], _ :: _, z :: c, _, _ => by simp [Op.bytesLess]
  | x :: a, [], _, h, _ => by simp [Op.bytesLess] at h
  | x :: a, y :: b, z :: c, h1, h2 => by
    simp only [Op.bytesLess, Bool.or_eq_true, Bool.and_eq_true, decide_eq_true_eq, beq_iff_eq] at h1 h2 ⊢
    rcases h1 with h1 | ⟨rfl, h1⟩
    · rcases h2 with h2 | ⟨rfl, h2⟩
      · exact .inl (UInt8.lt_trans h1 h2)
      · exact .inl h1
    · rcases h2 with h2 | ⟨rfl, h2⟩
      · exact .inl h2
      · exact .inr ⟨rfl, bl_trans a b c h1 h2⟩
theorem toList_inj {a b : ByteArray} (h : a.toList = b.toList) : a = b := by
  have := toList_eq a b
  rw [h] at this
  simpa using this
theorem cS_neg (a b : ByteArray) : cS b a = - cS a b := by
  unfold cS sless
  by_cases h : Op.bytesLess a.toList b.toList = true
  · have h2 := bl_asym _ _ h
    have h3 : b ≠ a := fun e => by subst e; rw [h] at h2; cases h2
    simp [h, h2, h3]
  · have h' : Op.bytesLess a.toList b.toList = false := by simpa using h
    by_cases h2 : Op.bytesLess b.toList a.toList = true
    · have h3 : a ≠ b := fun e => by subst e; exact h h2
      simp [h', h2, h3]
    · have h2' : Op.bytesLess b.toList a.toList = false := by simpa using h2
      have h3 := toList_inj (bl_tri _ _ h' h2')
      subst h3
      simp [h']
theorem cS_zero {a b : ByteArray} : cS a b = 0 ↔ a = b := by
  constructor
  · intro h
    unfold cS at h
    split at h
    · omega
    · split at h
      · assumption
      · omega
  · rintro rfl; exact cS_self _
theorem cS_le {a b : ByteArray} : cS a b ≤ 0 ↔ sless a b = true ∨ a = b := by
  unfold cS
  split
  · rename_i h; simp [h]
  · rename_i h
    split
    · rename_i h2; simp [h2]
    · rename_i h2; simp [h, h2]
theorem cS_tr (a b c : ByteArray) : Tr3 (cS a b) (cS b c) (cS a c) := by
  refine ⟨fun h1 h2 => ?_, fun h1 h2 h3 => ?_, fun h1 h2 => ?_⟩
  · rw [cS_le] at *
    rcases h1 with h1 | rfl
    · rcases h2 with h2 | rfl
      · exact .inl (bl_trans _ _ _ h1 h2)
      · exact .inl h1
    · exact h2
  · rw [cS_le] at h1 h2
    have h3 := cS_zero.1 h3
    subst h3
    rcases h1 with h1 | rfl
    · rcases h2 with h2 | rfl
      · have := bl_asym _ _ h1
        unfold sless at h2
        rw [this] at h2; cases h2
      · rw [sless_irr] at h1; cases h1
    · exact ⟨cS_self _, cS_self _⟩
  · have e1 := cS_zero.1 h1
    have e2 := cS_zero.1 h2
    subst e1; subst e2; exact cS_self _
/-! Terms -/
/-- The comparison of right terms, told by one chain. -/
def bas (a b : T) : Int := thn (cI (rk a.kind) (rk b.kind)) (thn (cI a.kids.length b.kids.length) (thn (cI a.num b.num) (cS a.name b.name)))
theorem cmp_thn {a b : T} {d d2 : Int} (h : lright a d = true) (h2 : lright b d2 = true) : cmpT a b = thn (bas a b) (cmpL a.kids b.kids) := by
  obtain ⟨k, s, m, ks⟩ := a
  obtain ⟨k2, s2, m2, ks2⟩ := b
  by_cases hc : cI (rk k) (rk k2) = 0
  · rw [cmp_eq h h2 hc]
    have : c3 s s2 m m2 ks.length ks2.length = bas (.mk k s m ks) (.mk k2 s2 m2 ks2) := by
      show _ = thn (cI (rk k) (rk k2)) (thn (cI ks.length ks2.length) (thn (cI m m2) (cS s s2)))
      rw [hc]
      unfold c3 c2 thn
      by_cases h1 : cI (ks.length : Int) (ks2.length : Int) = 0
      · simp only [h1, if_true, ne_eq, not_true_eq_false, if_false]
        by_cases h3 : cI m m2 = 0 <;> simp [h3]
      · simp [h1]
    rw [this]; rfl
  · rw [cmp_ne h h2 hc]
    show _ = thn (thn (cI (rk k) (rk k2)) _) _
    unfold thn
    simp [hc]
theorem bas_tr (a b c : T) : Tr3 (bas a b) (bas b c) (bas a c) :=
  (cI_tr _ _ _).lex fun _ _ => (cI_tr _ _ _).lex fun _ _ => (cI_tr _ _ _).lex fun _ _ => cS_tr _ _ _
theorem bas_neg (a b : T) : bas b a = - bas a b :=
  thn_neg (cI_neg _ _) fun _ => thn_neg (cI_neg _ _) fun _ => thn_neg (cI_neg _ _) fun _ => cS_neg _ _
theorem bas_zero {a b : T} (h : bas a b = 0) : rk a.kind = rk b.kind ∧ a.kids.length = b.kids.length ∧ a.num = b.num ∧ a.name = b.name := by
  unfold bas at h
  rw [thn_zero, thn_zero, thn_zero, cI_zero, cI_zero, cI_zero, cS_zero] at h
  exact ⟨h.1, by omega, h.2.2.1, h.2.2.2⟩
theorem cmpL_cons (x y : T) (r r2 : List T) : cmpL (x :: r) (y :: r2) = thn (cmpT x y) (cmpL r r2) := by rw [cmpL]; rfl
def Rt (t : T) : Prop := ∃ d, lright t d = true
theorem Rt.kids {t : T} (h : Rt t) : ∀ u ∈ t.kids, Rt u := by
  obtain ⟨d, h⟩ := h
  obtain ⟨k, s, m, ks⟩ := t
  exact fun u hu => ⟨d + 1, (lright_wf h).2 u hu⟩
theorem cmp_rt {a b : T} (h : Rt a) (h2 : Rt b) : cmpT a b = thn (bas a b) (cmpL a.kids b.kids) := by
  obtain ⟨d, h⟩ := h
  obtain ⟨d2, h2⟩ := h2
  exact cmp_thn h h2
theorem cmpL_tr : ∀ (xs ys zs : List T), (∀ u ∈ xs, Rt u ∧ ∀ b c, Rt b → Rt c → Tr3 (cmpT u b) (cmpT b c) (cmpT u c)) → (∀ u ∈ ys, Rt u) → (∀ u ∈ zs, Rt u) → Tr3 (cmpL xs ys) (cmpL ys zs) (cmpL xs zs)
  | [], [], zs, _, _, _ => by rw [cmpL_nil_l, cmpL_nil_l]; unfold Tr3; by_cases e : zs = [] <;> simp [e]
  | [], y :: r, [], _, _, _ => by rw [cmpL, cmpL, cmpL]; unfold Tr3; simp
  | [], y :: r, z :: q, _, _, _ => by rw [cmpL, cmpL]; unfold Tr3; simp
  | x :: p, [], zs, _, _, _ => by rw [cmpL]; unfold Tr3; simp
  | x :: p, y :: r, [], _, _, _ => by rw [cmpL_nil_r, cmpL_nil_r]; unfold Tr3; simp
  | x :: p, y :: r, z :: q, h, hy, hz => by
    rw [cmpL_cons, cmpL_cons, cmpL_cons]
    exact ((h x (by simp)).2 y z (hy y (by simp)) (hz z (by simp))).lex fun _ _ => cmpL_tr p r q (fun u hu => h u (by simp [hu])) (fun u hu => hy u (by simp [hu])) (fun u hu => hz u (by simp [hu]))
theorem cmp_tr (a : T) : Rt a → ∀ b c, Rt b → Rt c → Tr3 (cmpT a b) (cmpT b c) (cmpT a c) := by
  induction a using T.ind with | h k s m ks ih => ?_
  intro ha b c hb hc
  rw [cmp_rt ha hb, cmp_rt hb hc, cmp_rt ha hc]
  exact (bas_tr _ _ _).lex fun _ _ => cmpL_tr _ _ _ (fun u hu => ⟨ha.kids u hu, ih u hu (ha.kids u hu)⟩) hb.kids hc.kids
theorem cmpL_neg : ∀ (xs ys : List T), (∀ u ∈ xs, Rt u ∧ ∀ b, Rt b → cmpT b u = - cmpT u b) → (∀ u ∈ ys, Rt u) → cmpL ys xs = - cmpL xs ys
  | [], ys, _, _ => by rw [cmpL_nil_l, cmpL_nil_r]; by_cases e : ys = [] <;> simp [e]
  | x :: p, [], _, _ => by rw [cmpL_nil_l, cmpL_nil_r]; simp
  | x :: p, y :: r, h, hy => by
    rw [cmpL_cons, cmpL_cons]
    exact thn_neg ((h x (by simp)).2 y (hy y (by simp))) fun _ => cmpL_neg p r (fun u hu => h u (by simp [hu])) (fun u hu => hy u (by simp [hu]))
theorem cmp_neg (a : T) : Rt a → ∀ b, Rt b → cmpT b a = - cmpT a b := by
  induction a using T.ind with | h k s m ks ih => ?_
  intro ha b hb
  rw [cmp_rt ha hb, cmp_rt hb ha]
  exact thn_neg (bas_neg _ _) fun _ => cmpL_neg _ _ (fun u hu => ⟨ha.kids u hu, ih u hu (ha.kids u hu)⟩) hb.kids
theorem cmpL_zero : ∀ (xs ys : List T), (∀ u ∈ xs, Rt u ∧ ∀ b, Rt b → cmpT u b = 0 → u = b) → (∀ u ∈ ys, Rt u) → cmpL xs ys = 0 → xs = ys
  | [], ys, _, _, h => by rw [cmpL_nil_l] at h; by_cases e : ys = [] <;> simp_all
  | x :: p, [], _, _, h => by rw [cmpL_nil_r] at h; simp at h
  | x :: p, y :: r, h, hy, h0 => by
    rw [cmpL_cons, thn_zero] at h0
    rw [(h x (by simp)).2 y (hy y (by simp)) h0.1, cmpL_zero p r (fun u hu => h u (by simp [hu])) (fun u hu => hy u (by simp [hu])) h0.2]
theorem cmp_zero (a : T) : Rt a → ∀ b, Rt b → cmpT a b = 0 → a = b := by
  induction a using T.ind with | h k s m ks ih => ?_
  intro ha b hb h
  rw [cmp_rt ha hb, thn_zero] at h
  obtain ⟨k2, s2, m2, ks2⟩ := b
  obtain ⟨h1, h2, h3, h4⟩ := bas_zero h.1
  have hks := cmpL_zero _ _ (fun u hu => ⟨ha.kids u hu, ih u hu (ha.kids u hu)⟩) hb.kids h.2
  simp only [T.kind, T.num, T.name, T.kids] at h1 h3 h4 hks
  obtain ⟨d, ha⟩ := ha
  obtain ⟨d2, hb⟩ := hb
  have hk := (rk_kR ha hb).2 (by rw [h1, cI_self])
  rw [hk, h4, h3, hks]
theorem cmp_self (a : T) (h : Rt a) : cmpT a a = 0 := by
  have := cmp_neg a h a h
  omega
/-! Sorted lists -/
def Srt (xs : List T) : Prop := xs.Pairwise fun a b => cmpT a b ≤ 0
theorem srt_unique : ∀ {xs ys : List T}, (∀ u ∈ xs, Rt u) → Srt xs → Srt ys → xs.Perm ys → xs = ys
  | [], ys, _, _, _, h => by rw [List.Perm.nil_eq h]
  | x :: r, [], _, _, _, h => by have := h.length_eq; simp at this
  | x :: r, y :: q, hr, h1, h2, h => by
    have hx : x ∈ y :: q := h.mem_iff.1 (by simp)
    have hy : y ∈ x :: r := h.mem_iff.2 (by simp)
    have hrx := hr x (by simp)
    have hry := hr y hy
    have e1 : cmpT x y ≤ 0 := by
      rcases List.mem_cons.1 hy with e | e
      · rw [e, cmp_self x hrx]; omega
      · exact (List.pairwise_cons.1 h1).1 y e
    have e2 : cmpT y x ≤ 0 := by
      rcases List.mem_cons.1 hx with e | e
      · rw [← e, cmp_self x hrx]; omega
      · exact (List.pairwise_cons.1 h2).1 x e
    have e3 : x = y := cmp_zero x hrx y hry (by have := cmp_neg x hrx y hry; omega)
    subst e3
    rw [srt_unique (fun u hu => hr u (by simp [hu])) (List.pairwise_cons.1 h1).2 (List.pairwise_cons.1 h2).2 (List.perm_cons _ |>.1 h)]
theorem insT_perm (t : T) : ∀ xs : List T, (insT t xs).Perm (t :: xs)
  | [] => .refl _
  | x :: r => by
    unfold insT
    split
    · exact .refl _
    · exact ((insT_perm t r).cons x).trans (.swap t x r)
theorem insT_srt {t : T} (ht : Rt t) : ∀ {xs : List T}, (∀ u ∈ xs, Rt u) → Srt xs → Srt (insT t xs)
  | [], _, _ => by simp [insT, Srt]
  | x :: r, hr, h => by
    have hx := hr x (by simp)
    obtain ⟨h1, h2⟩ := List.pairwise_cons.1 h
    unfold insT
    split
    · rename_i hlt
      refine List.pairwise_cons.2 ⟨fun u hu => ?_, h⟩
      rcases List.mem_cons.1 hu with rfl | hu
      · omega
      · exact (cmp_tr t ht x u hx (hr u (by simp [hu]))).1 (by omega) (h1 u hu)
    · rename_i hlt
      refine List.pairwise_cons.2 ⟨fun u hu => ?_, insT_srt ht (fun u hu => hr u (by simp [hu])) h2⟩
      rcases (insT_mem t).1 hu with rfl | hu
      · have := cmp_neg u ht x hx; omega
      · exact h1 u hu
theorem sortF_spec : ∀ (ts out : List T), (∀ u ∈ out, Rt u) → Srt out → Srt (sortF ts out) ∧ (sortF ts out).Perm (out ++ ts.filter okT)
  | [], out, _, h => ⟨h, by simp [sortF]⟩
  | t :: r, out, ho, h => by
    rw [sortF]
    by_cases hk : okT t = true
    · rw [if_pos hk, List.filter_cons, if_pos hk]
      have ht : Rt t := ⟨1, okT_right hk⟩
      obtain ⟨h1, h2⟩ := sortF_spec r (insT t out) (fun u hu => (insT_mem t).1 hu |>.elim (fun e => e ▸ ht) (ho u)) (insT_srt ht ho h)
      refine ⟨h1, h2.trans ?_⟩
      exact ((insT_perm t out).append_right _).trans (List.perm_middle.symm)
    · rw [if_neg hk, List.filter_cons, if_neg hk]
      exact sortF_spec r out ho h
/-- Whatever is a sorted arrangement of the right terms is the list that the spec tells. -/
theorem sortF_eq {ts ys : List T} (h : ys.Perm (ts.filter okT)) (hs : Srt ys) : ys = sortF ts [] := by
  obtain ⟨h1, h2⟩ := sortF_spec ts [] (by simp) (by simp [Srt])
  refine srt_unique (fun u hu => ?_) hs h1 (h.trans (by simpa using h2.symm))
  have := h.mem_iff.1 hu
  simp only [List.mem_filter] at this
  exact ⟨1, okT_right this.2⟩
end Go.Eng

/- The engine: trees of blocks that stand apart, contracts that hand them out, contexts begun anew. -/
import Derived.Test.YtleahipnknainaaDoorEng16
set_option linter.unusedVariables false
set_option linter.unusedSimpArgs false
namespace Go.Eng

mutual
/-- Cells that hold data, and the blocks of it, each met once. -/
def Tr (w : World) : D → List Value → List Nat → Prop
  | .c x, cs, M => cs = [x] ∧ Value.scalar x = true ∧ M = []
  | .agg fs ds, cs, M => Trs w fs ds cs M
  | .sl l xs, cs, M => (cs = [.slice none 0 0] ∧ xs = [] ∧ M = []) ∨
      ∃ b Cp cur ty vs M', M = b :: M' ∧ b ∉ M' ∧ cs = [.slice (some ⟨b, 0, none⟩) xs.length Cp] ∧ w.heap[b]? = some (.cells cur ty (0, 0)) ∧ cur.size = Cp * l.len ∧ xs.length ≤ Cp ∧ Cp ≤ maxLen ∧ xs.length ≤ lim ∧
        Trs w (List.replicate xs.length l) xs vs M' ∧ ∀ (j : Nat) (x : Value), vs[j]? = some x → cur[j]? = some x
  | .rp _ _ _, _, _ => False
  | .fn _ _, _, _ => False
def Trs (w : World) : List Lay → List D → List Value → List Nat → Prop
  | fs, [], cs, M => fs = [] ∧ cs = [] ∧ M = []
  | fs, d :: ds, cs, M => ∃ f fr c1 c2 M1 M2, fs = f :: fr ∧ cs = c1 ++ c2 ∧ c1.length = f.len ∧ M = M1 ++ M2 ∧ (∀ b ∈ M1, b ∉ M2) ∧ Tr w d c1 M1 ∧ Trs w fr ds c2 M2
end

mutual
theorem Tr_keep {w w' : World} : ∀ (d : D) (cs : List Value) (M : List Nat), (∀ b ∈ M, w'.heap[b]? = w.heap[b]?) → Tr w d cs M → Tr w' d cs M
  | .c x, cs, M, hb, h => by simpa only [Tr] using h
  | .agg fs ds, cs, M, hb, h => by
    simp only [Tr] at h ⊢
    exact Trs_keep ds fs cs M hb h
  | .sl l xs, cs, M, hb, h => by
    simp only [Tr] at h ⊢
    rcases h with h | ⟨b, Cp, cur, ty, vs, M', rfl, h2, h3, h4, h5, h6, h7, h8, h9, h10⟩
    · exact .inl h
    · exact .inr ⟨b, Cp, cur, ty, vs, M', rfl, h2, h3, (hb b (by simp)).trans h4, h5, h6, h7, h8, Trs_keep xs _ vs M' (fun b' hb' => hb b' (by simp [hb'])) h9, h10⟩
  | .rp _ _ _, cs, M, hb, h => by simp only [Tr] at h
  | .fn _ _, cs, M, hb, h => by simp only [Tr] at h
theorem Trs_keep {w w' : World} : ∀ (ds : List D) (fs : List Lay) (cs : List Value) (M : List Nat), (∀ b ∈ M, w'.heap[b]? = w.heap[b]?) → Trs w fs ds cs M → Trs w' fs ds cs M
  | [], fs, cs, M, hb, h => by simpa only [Trs] using h
  | d :: ds, fs, cs, M, hb, h => by
    simp only [Trs] at h ⊢
    obtain ⟨f, fr, c1, c2, M1, M2, h1, h2, h3, rfl, h5, h6, h7⟩ := h
    exact ⟨f, fr, c1, c2, M1, M2, h1, h2, h3, rfl, h5, Tr_keep d c1 M1 (fun b hm => hb b (by simp [hm])) h6, Trs_keep ds fr c2 M2 (fun b hm => hb b (by simp [hm])) h7⟩
end

mutual
theorem Tr_DC {S : Nat → Prop} {w : World} : ∀ (d : D) (cs : List Value) (M : List Nat), (∀ b ∈ M, S b) → Tr w d cs M → DC S w d cs
  | .c x, cs, M, hb, h => by
    simp only [Tr, DC] at h ⊢
    exact ⟨h.1, h.2.1⟩
  | .agg fs ds, cs, M, hb, h => by
    simp only [Tr, DC] at h ⊢
    exact Trs_DC ds fs cs M hb h
  | .sl l xs, cs, M, hb, h => by
    simp only [Tr, DC] at h ⊢
    rcases h with ⟨h1, rfl, _⟩ | ⟨b, Cp, cur, ty, vs, M', rfl, h2, h3, h4, h5, h6, h7, h8, h9, h10⟩
    · exact ⟨none, 0, 0, h1, rfl, Nat.le_refl _, Nat.zero_le _, .inl rfl⟩
    · refine ⟨_, _, _, h3, rfl, h6, h8, .inr ⟨b, 0, vs, rfl, hb b (by simp), Trs_DC xs _ vs M' (fun b' hb' => hb b' (by simp [hb'])) h9, fun j x hx => ?_⟩⟩
      simp [World.cell?, h4, h10 j x hx]
  | .rp _ _ _, cs, M, hb, h => by simp only [Tr] at h
  | .fn _ _, cs, M, hb, h => by simp only [Tr] at h
theorem Trs_DC {S : Nat → Prop} {w : World} : ∀ (ds : List D) (fs : List Lay) (cs : List Value) (M : List Nat), (∀ b ∈ M, S b) → Trs w fs ds cs M → DCs S w fs ds cs
  | [], fs, cs, M, hb, h => by
    simp only [Trs, DCs] at h ⊢
    exact ⟨h.1, h.2.1⟩
  | d :: ds, fs, cs, M, hb, h => by
    simp only [Trs, DCs] at h ⊢
    obtain ⟨f, fr, c1, c2, M1, M2, h1, h2, h3, rfl, h5, h6, h7⟩ := h
    exact ⟨f, fr, c1, c2, h1, h2, h3, Tr_DC d c1 M1 (fun b hm => hb b (by simp [hm])) h6, Trs_DC ds fr c2 M2 (fun b hm => hb b (by simp [hm])) h7⟩
end

mutual
theorem Tr_lt {w : World} : ∀ (d : D) (cs : List Value) (M : List Nat), Tr w d cs M → ∀ b ∈ M, b < w.heap.size
  | .c x, cs, M, h => by
    simp only [Tr] at h
    rw [h.2.2]; simp
  | .agg fs ds, cs, M, h => by
    simp only [Tr] at h
    exact Trs_lt ds fs cs M h
  | .sl l xs, cs, M, h => by
    simp only [Tr] at h
    rcases h with ⟨h1, rfl, rfl⟩ | ⟨b, Cp, cur, ty, vs, M', rfl, h2, h3, h4, h5, h6, h7, h8, h9, h10⟩
    · simp
    · intro b' hb'
      rcases List.mem_cons.1 hb' with rfl | hb'
      · exact (Array.getElem?_eq_some_iff.1 h4).1
      · exact Trs_lt xs _ vs M' h9 b' hb'
  | .rp _ _ _, cs, M, h => by simp only [Tr] at h
  | .fn _ _, cs, M, h => by simp only [Tr] at h
theorem Trs_lt {w : World} : ∀ (ds : List D) (fs : List Lay) (cs : List Value) (M : List Nat), Trs w fs ds cs M → ∀ b ∈ M, b < w.heap.size
  | [], fs, cs, M, h => by
    simp only [Trs] at h
    rw [h.2.2]; simp
  | d :: ds, fs, cs, M, h => by
    simp only [Trs] at h
    obtain ⟨f, fr, c1, c2, M1, M2, h1, h2, h3, rfl, h5, h6, h7⟩ := h
    intro b hb
    rcases List.mem_append.1 hb with hb | hb
    · exact Tr_lt d c1 M1 h6 b hb
    · exact Trs_lt ds fr c2 M2 h7 b hb
end

theorem Trs_app {w : World} : ∀ (ds : List D) (fs : List Lay) (cs : List Value) (M : List Nat) {ds' : List D} {fs' : List Lay} {cs' : List Value} {M' : List Nat}, Trs w fs ds cs M → Trs w fs' ds' cs' M' → (∀ b ∈ M, b ∉ M') → Trs w (fs ++ fs') (ds ++ ds') (cs ++ cs') (M ++ M')
  | [], fs, cs, M, ds', fs', cs', M', h, k, hd => by
    simp only [Trs] at h
    obtain ⟨rfl, rfl, rfl⟩ := h
    exact k
  | d :: ds, fs, cs, M, ds', fs', cs', M', h, k, hd => by
    simp only [Trs] at h
    obtain ⟨f, fr, c1, c2, M1, M2, rfl, rfl, h3, rfl, h5, h6, h7⟩ := h
    simp only [List.cons_append, Trs]
    refine ⟨f, fr ++ fs', c1, c2 ++ cs', M1, M2 ++ M', rfl, by simp, h3, by simp, fun b hb hb2 => ?_, h6, Trs_app ds fr c2 M2 h7 k fun b hb => hd b (by simp [hb])⟩
    rcases List.mem_append.1 hb2 with hb2 | hb2
    · exact h5 b hb hb2
    · exact hd b (by simp [hb]) hb2

/-! ### Values told by their cells -/
mutual
def rawV : Lay → List Value → V
  | .one, cs => .d (.c (cs.headD undef))
  | .st fs, cs => .agg fs (raws fs cs)
def raws : List Lay → List Value → List V
  | [], _ => []
  | f :: fr, cs => rawV f (cs.take f.len) :: raws fr (cs.drop f.len)
end
def Lay.ag : Lay → Bool
  | .one => false
  | .st _ => true
mutual
theorem rawV_VC {β : Beta} {S : Nat → Prop} {w : World} : ∀ (l : Lay) (cs : List Value), cs.length = l.len → (∀ x ∈ cs, Value.scalar x = true) → VC β S w (rawV l cs) cs
  | .one, cs, hl, hs => by
    simp only [Lay.len] at hl
    match cs, hl with
    | [x], _ =>
      simp only [rawV, List.headD_cons, VC, DC]
      exact ⟨trivial, hs x (by simp)⟩
  | .st fs, cs, hl, hs => by
    simp only [rawV, VC]
    exact raws_VC fs cs (by simpa only [Lay.len] using hl) hs
theorem raws_VC {β : Beta} {S : Nat → Prop} {w : World} : ∀ (fs : List Lay) (cs : List Value), cs.length = Lay.lens fs → (∀ x ∈ cs, Value.scalar x = true) → VCs β S w fs (raws fs cs) cs
  | [], cs, hl, hs => by
    simp only [Lay.lens] at hl
    simp only [raws, VCs]
    exact ⟨trivial, List.eq_nil_of_length_eq_zero hl⟩
  | f :: fr, cs, hl, hs => by
    simp only [Lay.lens] at hl
    simp only [raws, VCs]
    refine ⟨f, fr, cs.take f.len, cs.drop f.len, rfl, (List.take_append_drop _ _).symm, by simp; omega, rawV_VC f _ (by simp; omega) fun x hx => hs x (List.mem_of_mem_take hx), raws_VC fr _ (by simp; omega) fun x hx => hs x (List.mem_of_mem_drop hx)⟩
end
mutual
/-- The cells of such a value are these and no others. -/
theorem rawV_cells {β : Beta} {S : Nat → Prop} {w : World} : ∀ (l : Lay) (cs cs' : List Value), cs.length = l.len → VC β S w (rawV l cs) cs' → cs' = cs
  | .one, cs, cs', hl, h => by
    simp only [Lay.len] at hl
    match cs, hl with
    | [x], _ =>
      simp only [rawV, List.headD_cons, VC, DC] at h
      exact h.1
  | .st fs, cs, cs', hl, h => by
    simp only [rawV, VC] at h
    exact raws_cells fs cs cs' (by simpa only [Lay.len] using hl) h
theorem raws_cells {β : Beta} {S : Nat → Prop} {w : World} : ∀ (fs : List Lay) (cs cs' : List Value), cs.length = Lay.lens fs → VCs β S w fs (raws fs cs) cs' → cs' = cs
  | [], cs, cs', hl, h => by
    simp only [Lay.lens] at hl
    simp only [raws, VCs] at h
    rw [h.2, List.eq_nil_of_length_eq_zero hl]
  | f :: fr, cs, cs', hl, h => by
    simp only [Lay.lens] at hl
    simp only [raws, VCs] at h
    obtain ⟨f', fr', c1, c2, e, rfl, h3, h4, h5⟩ := h
    injection e with e1 e2
    subst e1; subst e2
    rw [rawV_cells f _ c1 (by simp; omega) h4, raws_cells fr _ c2 (by simp; omega) h5]
    exact List.take_append_drop _ _
end
theorem rawV_isAgg (l : Lay) (cs : List Value) : (rawV l cs).isAgg = l.ag := by cases l <;> rfl
theorem rawV_known (l : Lay) (cs : List Value) : (rawV l cs).known = true := by cases l <;> rfl
theorem VCs_raws {β : Beta} {S : Nat → Prop} {w : World} {l : Lay} : ∀ (css : List (List Value)) (cs : List Value), (∀ c ∈ css, c.length = l.len) → VCs β S w (List.replicate css.length l) (css.map (rawV l)) cs → cs = css.flatten
  | [], cs, _, h => by
    simp only [List.map_nil, VCs] at h
    simpa using h.2
  | c :: css, cs, hl, h => by
    simp only [List.map_cons, List.length_cons, List.replicate_succ, VCs] at h
    obtain ⟨f', fr', c1, c2, e, rfl, h3, h4, h5⟩ := h
    injection e with e1 e2
    subst e1; subst e2
    rw [rawV_cells l c c1 (hl c (by simp)) h4, VCs_raws css c2 (fun c hc => hl c (by simp [hc])) h5]
    simp
mutual
theorem Tr_scalar {w : World} : ∀ (d : D) (cs : List Value) (M : List Nat), Tr w d cs M → ∀ x ∈ cs, Value.scalar x = true
  | .c x, cs, M, h => by
    simp only [Tr] at h
    rw [h.1]
    intro y hy
    rw [List.mem_singleton] at hy
    rw [hy]; exact h.2.1
  | .agg fs ds, cs, M, h => by
    simp only [Tr] at h
    exact Trs_scalar ds fs cs M h
  | .sl l xs, cs, M, h => by
    simp only [Tr] at h
    rcases h with ⟨rfl, _⟩ | ⟨b, Cp, cur, ty, vs, M', _, _, rfl, _⟩ <;> (intro y hy; rw [List.mem_singleton] at hy; rw [hy]; rfl)
  | .rp _ _ _, cs, M, h => by simp only [Tr] at h
  | .fn _ _, cs, M, h => by simp only [Tr] at h
theorem Trs_scalar {w : World} : ∀ (ds : List D) (fs : List Lay) (cs : List Value) (M : List Nat), Trs w fs ds cs M → ∀ x ∈ cs, Value.scalar x = true
  | [], fs, cs, M, h => by
    simp only [Trs] at h
    rw [h.2.1]; simp
  | d :: ds, fs, cs, M, h => by
    simp only [Trs] at h
    obtain ⟨f, fr, c1, c2, M1, M2, h1, rfl, h3, rfl, h5, h6, h7⟩ := h
    intro x hx
    rcases List.mem_append.1 hx with hx | hx
    · exact Tr_scalar d c1 M1 h6 x hx
    · exact Trs_scalar ds fr c2 M2 h7 x hx
end
theorem Tr_len {w : World} {d : D} {cs : List Value} {M : List Nat} (h : Tr w d cs M) : cs.length = d.len? := DC_len (S := fun _ => True) (Tr_DC d cs M (fun _ _ => trivial) h)

/-! ### Contexts begun anew -/
def boxBlk (L : Hp) (β : Beta) (b : Nat) : Prop := ∃ i bx c, L[i]? = some (some bx) ∧ β i = some (some (b, c))
section
variable {P : Program} {C : Cx} {n : Nat} {f : Fr} {L : Hp} {Q : AQ} {ops : Array Oper} {rest : List Oper} {dst : Option Tmp} {ty : TypeId} {pos : String} {after : Array Edge}
theorem Rel.restart {a : Act} {w : World} {β : Beta} {S : Nat → Prop} (h : Rel C n f L a w β S) : CExt C ⟨w, boxBlk L β, S⟩ ∧ Rel ⟨w, boxBlk L β, S⟩ n f L a w β S :=
  ⟨⟨h.pres, fun b ⟨i, bx, c, hL, hb⟩ => h.own i bx b c hL hb, h.s0, h.fz⟩, ⟨h.df, h.sz, h.fr, h.hp, fun i bx b c hL hb => .inl ⟨i, bx, c, hL, hb⟩, fun b hb => .inl hb, fun b hb => hb, Pres.refl _ _⟩⟩

/-- A tree that the context leaves alone. -/
structure Has (B : Nat) (C : Cx) (d : D) (cs : List Value) (K : List Nat) : Prop where
  tr : Tr C.w0 d cs K
  dm : ∀ b ∈ K, ¬ C.Dm b
  s0 : ∀ b ∈ K, ¬ C.S0 b
  lo : ∀ b ∈ K, B ≤ b
structure HasL (B : Nat) (C : Cx) (l : Lay) (css : List (List Value)) (ds : List D) (K : List Nat) : Prop where
  tr : Trs C.w0 (List.replicate ds.length l) ds css.flatten K
  len : css.length = ds.length
  each : ∀ c ∈ css, c.length = l.len
  dm : ∀ b ∈ K, ¬ C.Dm b
  s0 : ∀ b ∈ K, ¬ C.S0 b
  lo : ∀ b ∈ K, B ≤ b
theorem keep_ext {C C' : Cx} (h : CExt C C') {K : List Nat} (lt : ∀ b ∈ K, b < C.w0.heap.size) (dm : ∀ b ∈ K, ¬ C.Dm b) (s0 : ∀ b ∈ K, ¬ C.S0 b) : (∀ b ∈ K, C'.w0.heap[b]? = C.w0.heap[b]?) ∧ (∀ b ∈ K, ¬ C'.Dm b) ∧ (∀ b ∈ K, ¬ C'.S0 b) := by
  refine ⟨fun b hb => h.pres.block b (lt b hb) (dm b hb), fun b hb hd => ?_, fun b hb hd => ?_⟩
  · rcases h.dm b hd with h1 | h1
    · exact dm b hb h1
    · have := lt b hb; omega
  · rcases h.fz b hd with h1 | h1 | h1
    · exact s0 b hb h1
    · have := lt b hb; omega
    · exact dm b hb h1
theorem Has.ext {B : Nat} {C C' : Cx} {d : D} {cs : List Value} {K : List Nat} (k : Has B C d cs K) (h : CExt C C') : Has B C' d cs K := by
  obtain ⟨h1, h2, h3⟩ := keep_ext h (Tr_lt _ _ _ k.tr) k.dm k.s0
  exact ⟨Tr_keep _ _ _ h1 k.tr, h2, h3, k.lo⟩
theorem HasL.ext {B : Nat} {C C' : Cx} {l : Lay} {css : List (List Value)} {ds : List D} {K : List Nat} (k : HasL B C l css ds K) (h : CExt C C') : HasL B C' l css ds K := by
  obtain ⟨h1, h2, h3⟩ := keep_ext h (Trs_lt _ _ _ _ k.tr) k.dm k.s0
  exact ⟨Trs_keep _ _ _ _ h1 k.tr, k.len, k.each, h2, h3, k.lo⟩
theorem Has.le {B B' : Nat} {C : Cx} {d : D} {cs : List Value} {K : List Nat} (k : Has B C d cs K) (h : B' ≤ B) : Has B' C d cs K := ⟨k.tr, k.dm, k.s0, fun b hb => Nat.le_trans h (k.lo b hb)⟩
theorem HasL.nil {B : Nat} {C : Cx} {l : Lay} : HasL B C l [] [] [] := ⟨by simp [Trs], rfl, by simp, by simp, by simp, by simp⟩
theorem rep_snoc {A : Type} (k : Nat) (l : A) : List.replicate (k + 1) l = List.replicate k l ++ [l] := List.replicate_succ'
theorem Trs_one {w : World} {d : D} {l : Lay} {cs : List Value} {K : List Nat} (h : Tr w d cs K) (hl : cs.length = l.len) : Trs w [l] [d] cs K := by
  simp only [Trs]
  exact ⟨l, [], cs, [], K, [], rfl, by simp, hl, by simp, by simp, h, rfl, rfl, rfl⟩
/-- One more tree behind the others; it came later. -/
theorem HasL.snoc {B : Nat} {C C' : Cx} {l : Lay} {css : List (List Value)} {ds : List D} {K K' : List Nat} {d : D} {cs : List Value} (h : HasL B C l css ds K) (hx : CExt C C') (k : Has C.w0.heap.size C' d cs K') (hB : B ≤ C.w0.heap.size) (hl : d.len? = l.len) : HasL B C' l (css ++ [cs]) (ds ++ [d]) (K ++ K') := by
  have h' := h.ext hx
  have hlt := Trs_lt _ _ _ _ h.tr
  have hcs := (Tr_len k.tr).trans hl
  refine ⟨?_, by simp [h.len], ?_, ?_, ?_, ?_⟩
  · rw [List.length_append, List.length_singleton, rep_snoc, List.flatten_append]
    refine Trs_app _ _ _ _ h'.tr ?_ fun b hb hb2 => by have := hlt b hb; have := k.lo b hb2; omega
    simpa using Trs_one k.tr hcs
  all_goals
    intro b hb
    rcases List.mem_append.1 hb with hb | hb
  · exact h.each b hb
  · rw [List.mem_singleton] at hb; rw [hb]; exact hcs
  · exact h'.dm b hb
  · exact k.dm b hb
  · exact h'.s0 b hb
  · exact k.s0 b hb
  · exact h.lo b hb
  · exact Nat.le_trans hB (k.lo b hb)

/-- A function whose result stands apart: new blocks, each met once. -/
def OCall (P : Program) (k : FuncId) (ds : List D) (r : D) : Prop :=
  ∀ (w : World) (S : Nat → Prop) (xs : List Value), (∀ b, S b → b < w.heap.size) → Tab P S w → All2 (RD S w) ds xs →
    Calls P k xs.toArray w fun e w' => ∃ x M, e = .returned x ∧ Tr w' r x.cells.toList M ∧ r.isAgg = isAggV x ∧ (∀ b ∈ M, w.heap.size ≤ b) ∧ Pres (fun _ => False) w w'

theorem OCall.pcall {k : FuncId} {ds : List D} {r : D} (h : OCall P k ds r) : PCall P k ds (· = [r]) := fun w S xs hS hT hd =>
  (h w S xs hS hT hd).mono fun e w' ⟨x, M, h1, h2, h3, h4, h5⟩ => by
    have hlt := Tr_lt _ _ _ h2
    refine ⟨x, [r], fun b => S b ∨ b ∈ M, h1, rfl, ⟨Tr_DC _ _ M (fun b hb => .inr hb) h2, h3⟩, fun b hb => .inl hb, ?_, h5⟩
    rintro b (hb | hb)
    · exact ⟨by have := hS b hb; have := h5.size; omega, .inl hb⟩
    · exact ⟨hlt b hb, .inr (h4 b hb)⟩

/-- The state behind a call that turned nothing that was there; what is read alone is no more than before. -/
theorem Rel.called0 {a : Act} {w w' : World} {β : Beta} {S : Nat → Prop} (h : Rel C n f L a w β S) (hp : Pres (fun _ => False) w w') : Rel C n f L a w' β S :=
  h.called hp (fun _ h => h) fun b hb => ⟨by have := h.hp.fz b hb; have := hp.size; omega, .inl hb⟩

theorem raw_VR {β : Beta} {S : Nat → Prop} {w : World} {l : Lay} {r : D} {x : Value} {M : List Nat} (h : Tr w r x.cells.toList M) (hag : r.isAgg = isAggV x) (hl : r.len? = l.len) (hla : l.ag = r.isAgg) : VR β S w (rawV l x.cells.toList) x :=
  VR_of_VR0 (.inr ⟨rawV_VC l _ ((Tr_len h).trans hl) (Tr_scalar _ _ _ h), by rw [rawV_isAgg, hla, hag]⟩)

/-- What a call has handed out. -/
structure Got (C : Cx) (r : D) (l : Lay) (C' : Cx) (cs : List Value) (K : List Nat) : Prop where
  ext : CExt C C'
  has : Has C.w0.heap.size C' r cs K
  len : cs.length = l.len

theorem got_of {a : Act} {w w' : World} {β : Beta} {S : Nat → Prop} (h : Rel C n f L a w β S) (hp : Pres (fun _ => False) w w') {r : D} {l : Lay} {cs : List Value} {M : List Nat} (ht : Tr w' r cs M) (hlo : ∀ b ∈ M, w.heap.size ≤ b) (hl : r.len? = l.len) {a' : Act} {f' : Fr} (hr' : Rel C n f' L a' w' β S) :
    ∃ C', Got C r l C' cs M ∧ Rel C' n f' L a' w' β S := by
  obtain ⟨h1, h2⟩ := hr'.restart
  refine ⟨_, ⟨h1, ⟨ht, fun b hb ⟨i, bx, c, hL, hbi⟩ => ?_, fun b hb hs => ?_, fun b hb => ?_⟩, (Tr_len ht).trans hl⟩, h2⟩
  · have := (h.hp.bx i bx hL).lt hbi; have := hlo b hb; omega
  · have := h.hp.fz b hs; have := hlo b hb; omega
  · have := h.pres.size; have := hlo b hb; omega

theorem AL_ocall (hT : CT P C) {x : Operand} {args : Array Operand} {ts : Array TypeId} {k : FuncId} {ds caps : List D} {r : D} (l : Lay) (hx : ev f x = .d (.fn k caps)) (hcaps : caps.all (fun d => !d.isAgg) = true) (hc : Callable P k)
    (hp : OCall P k (ds ++ caps) r) (ha : args.toList.map (ev f) = ds.map V.d) (hl : r.len? = l.len) (hla : l.ag = r.isAgg) (hd : dstOk n dst = true) (h : ∀ C' cs K, Got C r l C' cs K → AL P C' n ops rest Q (updo f dst (rawV l cs)) L) : AL P C n ops (⟨dst, callV x args ts, ty, pos, after, none⟩ :: rest) Q f L := by
  intro a w β S hr
  refine wpList_plain rfl fun K hK => ?_
  have hv := rel_ev hr x
  rw [hx] at hv
  obtain ⟨xs, h1, h2⟩ := VR_fn hv
  unfold Oper.wp
  rw [call_run hc h1, Oper.upon_enter]
  have hall := (args_RD hr args.toList ds ha).append (caps_RD caps xs hcaps h2)
  have heq : (args.map a.eval ++ xs.toArray) = (args.toList.map a.eval ++ xs).toArray := by simp
  rw [heq]
  refine (hp w S _ hr.hp.fz (hT.tab hr) hall).mono ?_
  rintro e w' ⟨y, M, rfl, q1, q2, q3, q4⟩
  obtain ⟨C', hg, hr'⟩ := got_of hr q4 q1 q3 hl ((hr.called0 q4).puto (dstOk_spec hd) (raw_VR q1 q2 hl hla))
  exact hK _ _ (h C' _ M hg _ _ _ _ hr')

theorem AL_ocall0 (hT : CT P C) {x : Operand} {args : Array Operand} {ts : Array TypeId} {k : FuncId} {ds : List D} {r : D} (l : Lay) (hx : ev f x = .d (.fn k [])) (hc : Callable P k)
    (hp : OCall P k ds r) (ha : args.toList.map (ev f) = ds.map V.d) (hl : r.len? = l.len) (hla : l.ag = r.isAgg) (hd : dstOk n dst = true) (h : ∀ C' cs K, Got C r l C' cs K → AL P C' n ops rest Q (updo f dst (rawV l cs)) L) : AL P C n ops (⟨dst, callV x args ts, ty, pos, after, none⟩ :: rest) Q f L :=
  AL_ocall hT (caps := []) l hx rfl hc (by rw [List.append_nil]; exact hp) ha hl hla hd h
end
end Go.Eng

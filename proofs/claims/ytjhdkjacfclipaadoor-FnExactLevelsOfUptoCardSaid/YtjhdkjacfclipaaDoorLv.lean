/- Levels: two ways to climb to the least solution. -/
import Derived.Test.YtjhdkjacfclipaaDoorUs
set_option linter.unusedVariables false
set_option linter.unusedSimpArgs false
namespace Go.Eng
def idxP (ps : List ByteArray) (s : ByteArray) : Int := idxS ps s 0
theorem idxR_bd (s : ByteArray) : ∀ (ps : List ByteArray) (j : Nat), idxS ps s j = -1 ∨ (j ≤ idxS ps s j ∧ idxS ps s j < j + ps.length)
  | [], j => .inl rfl
  | x :: r, j => by
    unfold idxS
    split
    · exact .inr ⟨by omega, by simp only [List.length_cons]; omega⟩
    · rcases idxR_bd s r (j + 1) with h | ⟨h1, h2⟩
      · exact .inl h
      · exact .inr ⟨by omega, by simp only [List.length_cons]; omega⟩
theorem idxP_bd (ps : List ByteArray) (s : ByteArray) : idxP ps s = -1 ∨ (0 ≤ idxP ps s ∧ idxP ps s < ps.length) := by
  rcases idxR_bd s ps 0 with h | ⟨h1, h2⟩
  · exact .inl h
  · exact .inr ⟨by unfold idxP; omega, by unfold idxP; omega⟩
theorem idxR_nodup {s : ByteArray} : ∀ {ps : List ByteArray} {i : Nat} (j : Nat), ps.Nodup → ps[i]? = some s → idxS ps s j = j + i
  | [], i, j, _, h => by simp at h
  | x :: r, 0, j, _, h => by simp at h; subst h; simp [idxS]
  | x :: r, i + 1, j, hn, h => by
    rw [List.nodup_cons] at hn
    simp at h
    have hm := List.mem_of_getElem? h
    unfold idxS
    rw [if_neg (fun (e : x = s) => hn.1 (e.symm ▸ hm)), idxR_nodup (j + 1) hn.2 h]
    push_cast; omega
theorem idxP_nodup {s : ByteArray} {ps : List ByteArray} {i : Nat} (hn : ps.Nodup) (h : ps[i]? = some s) : idxP ps s = i := by
  unfold idxP; rw [idxR_nodup 0 hn h]; simp
theorem idxP_mem {s : ByteArray} {ps : List ByteArray} (hn : ps.Nodup) (h : s ∈ ps) : (idxP ps s).toNat < ps.length ∧ 0 ≤ idxP ps s ∧ ps[(idxP ps s).toNat]? = some s := by
  obtain ⟨i, hi, e⟩ := List.mem_iff_getElem.1 h
  have h2 : ps[i]? = some s := by rw [List.getElem?_eq_getElem hi, e]
  rw [idxP_nodup hn h2]
  exact ⟨by simpa using hi, by omega, by simpa using h2⟩
theorem predsF_nodup : ∀ (cs : List Cl) {out : List ByteArray}, out.Nodup → (predsF cs out).Nodup
  | [], _, h => h
  | c :: r, _, h => predsF_nodup r (onceL_nodup h)
theorem predsF_sub : ∀ (cs : List Cl) {out : List ByteArray} {x : ByteArray}, x ∈ out → x ∈ predsF cs out
  | [], _, _, h => h
  | c :: r, _, _, h => predsF_sub r (onceL_mem.2 (.inl h))
theorem predsF_mem : ∀ (cs : List Cl) {out : List ByteArray} {c : Cl}, c ∈ cs → predS c.h ∈ predsF cs out
  | c :: r, out, c', h => by
    rcases List.mem_cons.1 h with rfl | h
    · exact predsF_sub r (onceL_mem.2 (.inr rfl))
    · exact predsF_mem r h

abbrev LvA := List Int × Bool
abbrev LvE := Nat × ByteArray × Bool
def wB (n : Bool) : Int := if n = true then 1 else 0
theorem wB_bd (n : Bool) : 0 ≤ wB n ∧ wB n ≤ 1 := by cases n <;> simp [wB]
def rlx (ps : List ByteArray) (i : Nat) (a : LvA) (s : ByteArray) (n : Bool) : LvA :=
  if idxP ps s < 0 then a
  else if a.1.getD i 0 < a.1.getD (idxP ps s).toNat 0 + wB n then (a.1.set i (a.1.getD (idxP ps s).toNat 0 + wB n), true) else a
def rlxE (ps : List ByteArray) (a : LvA) (e : LvE) : LvA := rlx ps e.1 a e.2.1 e.2.2
def runE (ps : List ByteArray) (es : List LvE) (a : LvA) : LvA := es.foldl (rlxE ps) a
theorem runE_app (ps : List ByteArray) (xs ys : List LvE) (a : LvA) : runE ps (xs ++ ys) a = runE ps ys (runE ps xs a) := List.foldl_append
theorem runE_cons (ps : List ByteArray) (x : LvE) (ys : List LvE) (a : LvA) : runE ps (x :: ys) a = runE ps ys (rlxE ps a x) := rfl

section
variable {A B : Type} {s1 : A → ByteArray → Bool → A} {s2 : B → ByteArray → Bool → B} {g : A → B}
theorem actF_hom (h : ∀ a s n, g (s1 a s n) = s2 (g a) s n) (p : ByteArray) (ks : List T) (hk : ∀ t ∈ ks, ∀ neg a, g (eachF s1 t neg a) = eachF s2 t neg (g a)) (neg : Bool) (a : A) : g (actF s1 p (eachFs s1 ks) neg a) = actF s2 p (eachFs s2 ks) neg (g a) := by
  unfold actF
  split
  · match ks, hk with
    | [], _ => simp only [eachFs]
    | [x], _ => simp only [eachFs]
    | x :: y :: r, hk => simp only [eachFs]; rw [hk y (by simp), hk x (by simp)]
  · split
    · match ks, hk with
      | [], _ => simp only [eachFs]
      | x :: r, hk => simp only [eachFs]; rw [hk x (by simp)]
    · split
      · match ks, hk with
        | [], _ => simp only [eachFs]
        | x :: r, hk => simp only [eachFs]; rw [hk x (by simp)]
      · split
        · match ks, hk with
          | [], _ => simp only [eachFs]
          | [x], _ => simp only [eachFs]
          | [x, y], _ => simp only [eachFs]
          | x :: y :: z :: r, hk => simp only [eachFs]; rw [hk z (by simp), hk x (by simp)]
        · split
          · rfl
          · exact h a p neg
theorem eachF_hom (h : ∀ a s n, g (s1 a s n) = s2 (g a) s n) (t : T) : ∀ (neg : Bool) (a : A), g (eachF s1 t neg a) = eachF s2 t neg (g a) := by
  induction t using T.ind with | h k s m ks ih => ?_
  intro neg a
  rw [eachF_mk, eachF_mk]
  exact actF_hom h _ ks ih neg a
end
/-- What the walk over a body meets, in order. -/
def visN (t : T) (neg : Bool) : List (ByteArray × Bool) := eachF (fun l s n => l ++ [(s, n)]) t neg []
def vis (t : T) : List (ByteArray × Bool) := visN t false
theorem eachF_vis {A : Type} (step : A → ByteArray → Bool → A) (t : T) (neg : Bool) (a0 : A) : eachF step t neg a0 = (visN t neg).foldl (fun a q => step a q.1 q.2) a0 := by
  have := eachF_hom (s1 := fun (l : List (ByteArray × Bool)) s n => l ++ [(s, n)]) (s2 := step) (g := fun l => l.foldl (fun a q => step a q.1 q.2) a0) (fun a s n => by simp) t neg []
  exact this.symm
theorem visN_len (t : T) (neg : Bool) : ((visN t neg).length : Int) ≤ sz t := by
  have := eachF_le (step := fun (l : List (ByteArray × Bool)) s n => l ++ [(s, n)]) (μ := fun l => (l.length : Int)) (fun a s n => by simp) t neg []
  simpa [visN] using this

def edC (ps : List ByteArray) (c : Cl) : List LvE := if okT c.b = true then (vis c.b).map (fun q => ((idxP ps (predS c.h)).toNat, q)) else []
def edI (ps : List ByteArray) : List Cl → List LvE
  | [] => []
  | c :: r => edC ps c ++ edI ps r
def impCl (ps : List ByteArray) (c : Cl) (a : LvA) : LvA := if okT c.b = true then eachF (rlx ps (idxP ps (predS c.h)).toNat) c.b false a else a
def impL (ps : List ByteArray) : List Cl → LvA → LvA
  | [], a => a
  | c :: r, a => impL ps r (impCl ps c a)
theorem impCl_run (ps : List ByteArray) (c : Cl) (a : LvA) : impCl ps c a = runE ps (edC ps c) a := by
  unfold impCl edC
  split
  · rw [eachF_vis, runE, List.foldl_map]; rfl
  · rfl
theorem impL_run (ps : List ByteArray) : ∀ (cs : List Cl) (a : LvA), impL ps cs a = runE ps (edI ps cs) a
  | [], _ => rfl
  | c :: r, a => by rw [impL, edI, runE_app, impCl_run, impL_run ps r]
theorem edI_mem {ps : List ByteArray} {e : LvE} : ∀ {cs : List Cl}, e ∈ edI ps cs ↔ ∃ c ∈ cs, okT c.b = true ∧ e.1 = (idxP ps (predS c.h)).toNat ∧ e.2 ∈ vis c.b
  | [] => by simp [edI]
  | c :: r => by
    rw [edI, List.mem_append, edI_mem (cs := r)]
    have : e ∈ edC ps c ↔ okT c.b = true ∧ e.1 = (idxP ps (predS c.h)).toNat ∧ e.2 ∈ vis c.b := by
      unfold edC
      split
      · rename_i h
        simp only [List.mem_map, h, true_and]
        constructor
        · rintro ⟨q, h1, rfl⟩; exact ⟨rfl, h1⟩
        · rintro ⟨h1, h2⟩; exact ⟨e.2, h2, by rw [← h1]⟩
      · rename_i h; simp [h]
    rw [this]; simp
theorem edC_len (ps : List ByteArray) (c : Cl) : ((edC ps c).length : Int) ≤ sz c.b := by
  unfold edC
  split
  · rw [List.length_map]; exact visN_len _ _
  · simp
def stepW (want : Bool) (a : List ByteArray) (s : ByteArray) (n : Bool) : List ByteArray := if n = want then onceL a s else a
theorem stepW_le (want : Bool) (a : List ByteArray) (s : ByteArray) (n : Bool) : ((stepW want a s n).length : Int) ≤ a.length + 1 := by
  have := onceL_len a s
  unfold stepW; split <;> omega
def denyA (want : Bool) : List Cl → List ByteArray → List ByteArray
  | [], out => out
  | c :: r, out => denyA want r (if okT c.b = true then eachF (stepW want) c.b false out else out)
def deny (cs : List Cl) (p : ByteArray) (want : Bool) : List ByteArray := denyA want (clsOf cs p) []
theorem foldW_mem {want : Bool} {x : ByteArray} : ∀ (qs : List (ByteArray × Bool)) (out : List ByteArray), x ∈ qs.foldl (fun a q => stepW want a q.1 q.2) out ↔ x ∈ out ∨ (x, want) ∈ qs
  | [], out => by simp
  | (s, n) :: r, out => by
    rw [List.foldl_cons, foldW_mem r]
    unfold stepW
    by_cases h : n = want
    · subst h
      simp only [if_pos]
      rw [onceL_mem, List.mem_cons, Prod.mk.injEq]
      simp only [and_true]; exact or_assoc
    · rw [if_neg h, List.mem_cons, Prod.mk.injEq]
      constructor
      · rintro (h1 | h1)
        · exact .inl h1
        · exact .inr (.inr h1)
      · rintro (h1 | ⟨_, h1⟩ | h1)
        · exact .inl h1
        · exact absurd h1.symm h
        · exact .inr h1
theorem denyA_mem {want : Bool} {x : ByteArray} : ∀ (cs : List Cl) (out : List ByteArray), x ∈ denyA want cs out ↔ x ∈ out ∨ ∃ c ∈ cs, okT c.b = true ∧ (x, want) ∈ vis c.b
  | [], out => by simp [denyA]
  | c :: r, out => by
    rw [denyA, denyA_mem r]
    have : x ∈ (if okT c.b = true then eachF (stepW want) c.b false out else out) ↔ x ∈ out ∨ (okT c.b = true ∧ (x, want) ∈ vis c.b) := by
      split
      · rename_i h; rw [eachF_vis, foldW_mem]; simp [h, vis]
      · rename_i h; simp [h]
    rw [this]
    simp only [List.mem_cons, exists_eq_or_imp]; exact or_assoc
theorem clsOf_iff {cs : List Cl} {p : ByteArray} {c : Cl} : c ∈ clsOf cs p ↔ c ∈ cs ∧ predS c.h = p := by
  induction cs with
  | nil => simp [clsOf]
  | cons d r ih =>
    unfold clsOf
    split
    · rename_i h
      simp only [List.mem_cons, ih]
      constructor
      · rintro (rfl | ⟨h1, h2⟩)
        · exact ⟨.inl rfl, h⟩
        · exact ⟨.inr h1, h2⟩
      · rintro ⟨rfl | h1, h2⟩
        · exact .inl rfl
        · exact .inr ⟨h1, h2⟩
    · rename_i h
      rw [ih]
      simp only [List.mem_cons]
      constructor
      · rintro ⟨h1, h2⟩; exact ⟨.inr h1, h2⟩
      · rintro ⟨rfl | h1, h2⟩
        · exact absurd h2 h
        · exact ⟨h1, h2⟩
theorem deny_mem {cs : List Cl} {p : ByteArray} {want : Bool} {x : ByteArray} : x ∈ deny cs p want ↔ ∃ c ∈ cs, predS c.h = p ∧ okT c.b = true ∧ (x, want) ∈ vis c.b := by
  unfold deny
  rw [denyA_mem]
  simp only [List.not_mem_nil, false_or, clsOf_iff]
  constructor
  · rintro ⟨c, ⟨h1, h2⟩, h3⟩; exact ⟨c, h1, h2, h3⟩
  · rintro ⟨c, h1, h2, h3⟩; exact ⟨c, ⟨h1, h2⟩, h3⟩
def szB : List Cl → Nat
  | [] => 0
  | c :: r => sz c.b + szB r
theorem szB_bulk (cs : List Cl) : (szB cs : Int) ≤ cs.length + bulkCs cs := by
  induction cs with
  | nil => simp [szB, bulkCs]
  | cons c r ih =>
    have h1 := sz_bulk c.b
    have h2 := bulk_nn c.h
    simp only [szB, bulkCs, bulkC, List.length_cons]
    push_cast; omega
theorem szB_clsOf (cs : List Cl) (p : ByteArray) : szB (clsOf cs p) ≤ szB cs := by
  induction cs with
  | nil => simp [clsOf]
  | cons c r ih => unfold clsOf; split <;> simp only [szB] <;> omega
theorem szB_drop : ∀ (cs : List Cl) (j : Nat), szB (cs.drop j) ≤ szB cs
  | [], j => by simp [szB]
  | c :: r, 0 => Nat.le_refl _
  | c :: r, j + 1 => by have := szB_drop r j; simp only [List.drop_succ_cons, szB]; omega
theorem denyA_len (want : Bool) : ∀ (cs : List Cl) (out : List ByteArray), (denyA want cs out).length ≤ out.length + szB cs
  | [], out => by simp [denyA]
  | c :: r, out => by
    have h1 := denyA_len want r (if okT c.b = true then eachF (stepW want) c.b false out else out)
    have h2 := eachF_le (μ := fun a : List ByteArray => (a.length : Int)) (stepW_le want) c.b false out
    rw [denyA, szB]
    split at h1 <;> rename_i h
    · rw [if_pos h]; omega
    · rw [if_neg h]; omega
theorem deny_len (cs : List Cl) (p : ByteArray) (want : Bool) : (deny cs p want).length ≤ szB cs := by
  have h1 := denyA_len want (clsOf cs p) []
  have h2 := szB_clsOf cs p
  unfold deny; rw [List.length_nil] at h1; omega
def edK (cs : List Cl) (i : Nat) (p : ByteArray) (w : Bool) : List LvE := (deny cs p w).map fun s => (i, s, w)
def edS (cs : List Cl) (i : Nat) (p : ByteArray) : List LvE := edK cs i p false ++ edK cs i p true
theorem edS_mem {cs : List Cl} {i : Nat} {p : ByteArray} {e : LvE} : e ∈ edS cs i p ↔ e.1 = i ∧ e.2.1 ∈ deny cs p e.2.2 := by
  obtain ⟨j, s, w⟩ := e
  simp only [edS, edK, List.mem_append, List.mem_map, Prod.mk.injEq]
  cases w <;> simp <;> constructor <;> rintro ⟨h1, h2⟩ <;> simp_all
theorem edS_iff {cs : List Cl} {ps : List ByteArray} (hn : ps.Nodup) (hp : ∀ c ∈ cs, predS c.h ∈ ps) {e : LvE} : e ∈ edI ps cs ↔ ∃ i p, ps[i]? = some p ∧ e ∈ edS cs i p := by
  rw [edI_mem]
  constructor
  · rintro ⟨c, h1, h2, h3, h4⟩
    obtain ⟨k1, k2, k3⟩ := idxP_mem hn (hp c h1)
    exact ⟨_, _, k3, edS_mem.2 ⟨h3, deny_mem.2 ⟨c, h1, rfl, h2, h4⟩⟩⟩
  · rintro ⟨i, p, h1, h2⟩
    obtain ⟨h3, h4⟩ := edS_mem.1 h2
    obtain ⟨c, k1, k2, k3, k4⟩ := deny_mem.1 h4
    refine ⟨c, k1, k3, ?_, k4⟩
    rw [k2, idxP_nodup hn h1, h3]; simp

/-! ### Solutions -/
theorem getD_set (l : List Int) (i : Nat) (v : Int) (k : Nat) : (l.set i v).getD k 0 = if i = k ∧ i < l.length then v else l.getD k 0 := by
  simp only [List.getD_eq_getElem?_getD, List.getElem?_set]
  by_cases h : i = k
  · subst h
    by_cases h2 : i < l.length
    · simp [h2]
    · simp [h2]
  · simp [h]
def okE (ps : List ByteArray) (l : List Int) (e : LvE) : Prop := idxP ps e.2.1 < 0 ∨ l.getD (idxP ps e.2.1).toNat 0 + wB e.2.2 ≤ l.getD e.1 0
structure SolL (ps : List ByteArray) (E : LvE → Prop) (l : List Int) : Prop where
  len : l.length = ps.length
  nn : ∀ i, 0 ≤ l.getD i 0
  ok : ∀ e, E e → okE ps l e
structure BelL (ps : List ByteArray) (E : LvE → Prop) (l : List Int) : Prop where
  len : l.length = ps.length
  nn : ∀ i, 0 ≤ l.getD i 0
  be : ∀ m, SolL ps E m → ∀ i, l.getD i 0 ≤ m.getD i 0
theorem rlxE_len (ps : List ByteArray) (a : LvA) (e : LvE) : (rlxE ps a e).1.length = a.1.length := by
  unfold rlxE rlx; split
  · rfl
  · split <;> simp
theorem rlxE_bel {ps : List ByteArray} {E : LvE → Prop} {a : LvA} {e : LvE} (he : E e) (h : BelL ps E a.1) : BelL ps E (rlxE ps a e).1 := by
  unfold rlxE rlx
  split
  · exact h
  · rename_i h0
    split
    · rename_i h1
      have hw := wB_bd e.2.2
      refine ⟨by simp [h.len], fun k => ?_, fun m hm k => ?_⟩
      · rw [getD_set]
        split
        · have := h.nn (idxP ps e.2.1).toNat; omega
        · exact h.nn k
      · rw [getD_set]
        split
        · rename_i h2
          obtain ⟨rfl, _⟩ := h2
          rcases hm.ok e he with h3 | h3
          · exact absurd h3 h0
          · have := h.be m hm (idxP ps e.2.1).toNat; omega
        · exact h.be m hm k
    · exact h
theorem runE_bel {ps : List ByteArray} {E : LvE → Prop} : ∀ {es : List LvE} {a : LvA}, (∀ e ∈ es, E e) → BelL ps E a.1 → BelL ps E (runE ps es a).1
  | [], _, _, h => h
  | e :: r, a, he, h => runE_bel (es := r) (fun x hx => he x (by simp [hx])) (rlxE_bel (he e (by simp)) h)
theorem rlxE_stay {ps : List ByteArray} {a : LvA} {e : LvE} (h : (rlxE ps a e).2 = false) : a.2 = false ∧ rlxE ps a e = a ∧ okE ps a.1 e := by
  unfold rlxE rlx at h ⊢
  split at h
  · rename_i h0; rw [if_pos h0]; exact ⟨h, rfl, .inl h0⟩
  · rename_i h0
    split at h
    · cases h
    · rename_i h1; rw [if_neg h0, if_neg h1]; exact ⟨h, rfl, .inr (by omega)⟩
theorem runE_stay {ps : List ByteArray} : ∀ {es : List LvE} {a : LvA}, (runE ps es a).2 = false → a.2 = false ∧ runE ps es a = a ∧ ∀ e ∈ es, okE ps a.1 e
  | [], _, h => ⟨h, rfl, by simp⟩
  | e :: r, a, h => by
    rw [runE_cons] at h ⊢
    obtain ⟨h1, h2, h3⟩ := runE_stay (es := r) h
    obtain ⟨k1, k2, k3⟩ := rlxE_stay h1
    rw [k2] at h2 h3 ⊢
    refine ⟨k1, h2, fun x hx => ?_⟩
    rcases List.mem_cons.1 hx with rfl | hx
    · exact k3
    · exact h3 x hx
def sumL : List Int → Int
  | [] => 0
  | x :: r => x + sumL r
theorem sumL_set : ∀ (l : List Int) (i : Nat) (v : Int), i < l.length → sumL (l.set i v) = sumL l - l.getD i 0 + v
  | [], i, v, h => by simp at h
  | x :: r, 0, v, h => by simp [sumL]; omega
  | x :: r, i + 1, v, h => by
    have := sumL_set r i v (by simpa using h)
    simp [sumL] at this ⊢; omega
theorem rlxE_sum {ps : List ByteArray} {a : LvA} {e : LvE} (he : e.1 < a.1.length) : sumL a.1 ≤ sumL (rlxE ps a e).1 ∧ (a.2 = false → (rlxE ps a e).2 = true → sumL a.1 < sumL (rlxE ps a e).1) := by
  unfold rlxE rlx
  split
  · exact ⟨by omega, fun h1 h2 => by rw [h1] at h2; cases h2⟩
  · split
    · rename_i h1
      have := sumL_set a.1 e.1 (a.1.getD (idxP ps e.2.1).toNat 0 + wB e.2.2) he
      simp only
      exact ⟨by omega, fun _ _ => by omega⟩
    · exact ⟨by omega, fun h1 h2 => by rw [h1] at h2; cases h2⟩
theorem runE_len (ps : List ByteArray) : ∀ (es : List LvE) (a : LvA), (runE ps es a).1.length = a.1.length
  | [], _ => rfl
  | e :: r, a => by rw [runE_cons, runE_len ps r, rlxE_len]
theorem runE_sum {ps : List ByteArray} : ∀ {es : List LvE} {a : LvA}, (∀ e ∈ es, e.1 < a.1.length) → sumL a.1 ≤ sumL (runE ps es a).1 ∧ (a.2 = false → (runE ps es a).2 = true → sumL a.1 < sumL (runE ps es a).1)
  | [], a, _ => ⟨Int.le_refl _, fun h1 h2 => by rw [runE, List.foldl_nil, h1] at h2; cases h2⟩
  | e :: r, a, he => by
    rw [runE_cons]
    obtain ⟨h1, h2⟩ := rlxE_sum (ps := ps) (he e (by simp))
    obtain ⟨k1, k2⟩ := runE_sum (ps := ps) (es := r) (a := rlxE ps a e) (fun x hx => by rw [rlxE_len]; exact he x (by simp [hx]))
    refine ⟨by omega, fun h3 h4 => ?_⟩
    cases h5 : (rlxE ps a e).2 with
    | true => have := h2 h3 h5; omega
    | false => have := k2 h5 h4; omega
theorem rlxE_le {ps : List ByteArray} {a : LvA} {e : LvE} {B : Int} (h : ∀ i, a.1.getD i 0 ≤ B) (hB : 0 ≤ B) : ∀ i, (rlxE ps a e).1.getD i 0 ≤ B + 1 := by
  intro i
  unfold rlxE rlx
  have hw := wB_bd e.2.2
  split
  · have := h i; omega
  · split
    · simp only
      rw [getD_set]
      split
      · have := h (idxP ps e.2.1).toNat; omega
      · have := h i; omega
    · have := h i; omega
theorem runE_le {ps : List ByteArray} : ∀ {es : List LvE} {a : LvA} {B : Int}, (∀ i, a.1.getD i 0 ≤ B) → 0 ≤ B → ∀ i, (runE ps es a).1.getD i 0 ≤ B + es.length
  | [], _, _, h, _, i => by have := h i; simp only [runE, List.foldl_nil, List.length_nil]; omega
  | e :: r, a, B, h, hB, i => by
    rw [runE_cons]
    have := runE_le (ps := ps) (es := r) (rlxE_le (e := e) (ps := ps) h hB) (by omega) i
    simp only [List.length_cons]; push_cast; omega
theorem sumL_le {B : Int} : ∀ {l : List Int}, (∀ i, l.getD i 0 ≤ B) → sumL l ≤ l.length * B
  | [], _ => by simp [sumL]
  | x :: r, h => by
    have h1 := h 0
    have h2 := sumL_le (l := r) (B := B) (fun i => by have := h (i + 1); simpa using this)
    simp only [sumL, List.length_cons]
    simp at h1
    have : ((r.length + 1 : Nat) : Int) * B = (r.length : Int) * B + B := by push_cast; rw [Int.add_mul]; omega
    omega
def levR (ps : List ByteArray) (E : LvE → Prop) (R : LvA) : Prop :=
  (R.2 = true ∧ SolL ps E R.1 ∧ BelL ps E R.1 ∧ ∀ i, R.1.getD i 0 ≤ ps.length) ∨ (R = ([], false) ∧ ∃ l, BelL ps E l ∧ ∃ i, (ps.length : Int) < l.getD i 0)
theorem levR_unique {ps : List ByteArray} {E : LvE → Prop} {R R' : LvA} (h : levR ps E R) (h' : levR ps E R') : R = R' := by
  have ex : ∀ {l m : List Int}, l.length = m.length → (∀ i, l.getD i 0 = m.getD i 0) → l = m := fun {l m} h1 h2 => by
    refine List.ext_getElem h1 fun i k1 k2 => ?_
    have := h2 i
    simpa [List.getD_eq_getElem?_getD, k1, k2] using this
  rcases h with ⟨h1, h2, h3, h4⟩ | ⟨h1, l, h2, i, h3⟩ <;> rcases h' with ⟨k1, k2, k3, k4⟩ | ⟨k1, l', k2, i', k3⟩
  · refine Prod.ext (ex (by rw [h2.len, k2.len]) fun i => ?_) (by rw [h1, k1])
    have := h3.be _ k2 i
    have := k3.be _ h2 i
    omega
  · have := k2.be _ h2 i'
    have := h4 i'
    omega
  · have := h2.be _ k2 i
    have := k4 i
    omega
  · rw [h1, k1]
open Classical in
noncomputable def levOf (d : Dbt) : LvA := if h : ∃ R, levR (predsF d.cs []) (· ∈ edI (predsF d.cs []) d.cs) R then Classical.choose h else ([], false)
theorem levOf_eq {d : Dbt} {R : LvA} (h : levR (predsF d.cs []) (· ∈ edI (predsF d.cs []) d.cs) R) : levOf d = R := by
  unfold levOf
  rw [dif_pos ⟨R, h⟩]
  exact levR_unique (Classical.choose_spec (⟨R, h⟩ : ∃ R, _)) h
theorem levOf_len (d : Dbt) : (levOf d).1.length ≤ d.cs.length := by
  have hp := predsF_len d.cs []
  simp at hp
  unfold levOf
  split
  · rename_i h
    rcases Classical.choose_spec h with ⟨_, h2, _⟩ | ⟨h1, _⟩
    · have := h2.len; omega
    · rw [h1]; simp
  · simp
theorem BelL_zero {ps : List ByteArray} {E : LvE → Prop} {n : Nat} (h : n = ps.length) : BelL ps E (List.replicate n 0) := by
  have : ∀ i, (List.replicate n (0 : Int)).getD i 0 = 0 := fun i => by
    simp only [List.getD_eq_getElem?_getD, List.getElem?_replicate]
    split <;> rfl
  exact ⟨by simp [h], fun i => by rw [this]; omega, fun m hm i => by rw [this]; exact hm.nn i⟩
def supL : List Int → Int
  | [] => 0
  | x :: r => max x (supL r)
theorem supL_nn : ∀ l : List Int, 0 ≤ supL l
  | [] => by simp [supL]
  | x :: r => by have := supL_nn r; simp only [supL]; omega
theorem supL_le {B : Int} (hB : 0 ≤ B) : ∀ {l : List Int}, (∀ i, l.getD i 0 ≤ B) → supL l ≤ B
  | [], _ => by simpa [supL] using hB
  | x :: r, h => by
    have h1 := h 0
    have h2 := supL_le hB (l := r) (fun i => by have := h (i + 1); simpa using this)
    simp at h1
    simp only [supL]; omega
theorem supL_get : ∀ (l : List Int) (i : Nat), l.getD i 0 ≤ supL l
  | [], i => by simp [supL]
  | x :: r, 0 => by simp only [supL, List.getD_cons_zero]; omega
  | x :: r, i + 1 => by have := supL_get r i; simp only [supL, List.getD_cons_succ]; omega
def goodL (ps : List ByteArray) (a : LvA) : Prop := a.1.length = ps.length ∧ ∀ i, 0 ≤ a.1.getD i 0
theorem rlx_good {ps : List ByteArray} {i : Nat} {a : LvA} {s : ByteArray} {n : Bool} (h : goodL ps a) : goodL ps (rlx ps i a s n) := by
  refine ⟨by have := rlxE_len ps a (i, s, n); unfold rlxE at this; rw [this]; exact h.1, fun k => ?_⟩
  unfold rlx
  have hw := wB_bd n
  split
  · exact h.2 k
  · split
    · simp only
      rw [getD_set]
      split
      · have := h.2 (idxP ps s).toNat; omega
      · exact h.2 k
    · exact h.2 k
open Classical in
noncomputable def μL (ps : List ByteArray) (a : LvA) : Int := if goodL ps a then supL a.1 else max 1099511627776 (supL a.1)
theorem rlx_sup (ps : List ByteArray) (i : Nat) (a : LvA) (s : ByteArray) (n : Bool) : supL (rlx ps i a s n).1 ≤ supL a.1 + 1 := by
  have h0 := supL_nn a.1
  exact supL_le (by omega) (rlxE_le (ps := ps) (e := (i, s, n)) (supL_get a.1) h0)
theorem μL_le (ps : List ByteArray) (i : Nat) (a : LvA) (s : ByteArray) (n : Bool) : μL ps (rlx ps i a s n) ≤ μL ps a + 1 := by
  have h1 := rlx_sup ps i a s n
  unfold μL
  by_cases h : goodL ps a
  · rw [if_pos h, if_pos (rlx_good h)]; exact h1
  · rw [if_neg h]; split <;> omega
theorem μL_good {ps : List ByteArray} {a : LvA} (h : μL ps a + 1 ≤ 1099511627776) : goodL ps a ∧ supL a.1 + 1 ≤ 1099511627776 := by
  unfold μL at h
  split at h
  · rename_i hg; exact ⟨hg, h⟩
  · omega
theorem μL_of {ps : List ByteArray} {a : LvA} (h : goodL ps a) : μL ps a = supL a.1 := by unfold μL; rw [if_pos h]
def maxF : List Int → Int
  | [] => 0
  | x :: r => r.foldl max x
theorem foldmax_bd : ∀ (l : List Int) (x : Int), x ≤ l.foldl max x ∧ (∀ y ∈ l, y ≤ l.foldl max x) ∧ (l.foldl max x = x ∨ l.foldl max x ∈ l)
  | [], x => by simp
  | y :: r, x => by
    obtain ⟨h1, h2, h3⟩ := foldmax_bd r (max x y)
    rw [List.foldl_cons]
    refine ⟨by omega, fun z hz => ?_, ?_⟩
    · rcases List.mem_cons.1 hz with rfl | hz
      · omega
      · exact h2 z hz
    · rcases h3 with h3 | h3
      · rw [h3]
        by_cases h : x ≤ y
        · right; rw [Int.max_eq_right h]; simp
        · left; exact Int.max_eq_left (by omega)
      · exact .inr (by simp [h3])
theorem maxF_ge {l : List Int} {B : Int} (hl : l ≠ []) : B < maxF l ↔ ∃ i, i < l.length ∧ B < l.getD i 0 := by
  match l, hl with
  | x :: r, _ =>
    obtain ⟨h1, h2, h3⟩ := foldmax_bd r x
    have hu : maxF (x :: r) = r.foldl max x := rfl
    rw [hu]
    constructor
    · intro h
      have hm : r.foldl max x ∈ x :: r := by rcases h3 with h3 | h3 <;> simp [h3]
      obtain ⟨i, hi, e⟩ := List.mem_iff_getElem.1 hm
      exact ⟨i, hi, by rw [List.getD_eq_getElem?_getD, List.getElem?_eq_getElem hi]; simpa [e] using h⟩
    · rintro ⟨i, hi, h⟩
      rw [List.getD_eq_getElem?_getD, List.getElem?_eq_getElem hi] at h
      simp only [Option.getD_some] at h
      have hm := List.getElem_mem hi
      rcases List.mem_cons.1 hm with e | e
      · rw [e] at h; omega
      · have := h2 _ e; omega

/-! ### The passes -/
def edKs (cs : List Cl) (i : Nat) (p : ByteArray) : Nat → List LvE
  | 0 => []
  | 1 => edK cs i p false
  | _ => edS cs i p
def edT (cs : List Cl) (ps : List ByteArray) : Nat → List LvE
  | 0 => []
  | i + 1 => edT cs ps i ++ (match ps[i]? with | some p => edS cs i p | none => [])
theorem edT_mem {cs : List Cl} {ps : List ByteArray} {e : LvE} : ∀ {n : Nat}, e ∈ edT cs ps n ↔ ∃ i p, i < n ∧ ps[i]? = some p ∧ e ∈ edS cs i p
  | 0 => by simp [edT]
  | n + 1 => by
    rw [edT, List.mem_append, edT_mem (n := n)]
    constructor
    · rintro (⟨i, p, h1, h2, h3⟩ | h)
      · exact ⟨i, p, by omega, h2, h3⟩
      · cases hp : ps[n]? with
        | none => rw [hp] at h; simp at h
        | some p => rw [hp] at h; exact ⟨n, p, by omega, hp, h⟩
    · rintro ⟨i, p, h1, h2, h3⟩
      by_cases h : i = n
      · subst h; right; rw [h2]; exact h3
      · exact .inl ⟨i, p, by omega, h2, h3⟩
theorem edT_sub {cs : List Cl} {ps : List ByteArray} (hn : ps.Nodup) (hp : ∀ c ∈ cs, predS c.h ∈ ps) {n : Nat} : ∀ e ∈ edT cs ps n, e ∈ edI ps cs := fun e he => by
  obtain ⟨i, p, _, h2, h3⟩ := edT_mem.1 he
  exact (edS_iff hn hp).2 ⟨i, p, h2, h3⟩
theorem edT_all {cs : List Cl} {ps : List ByteArray} (hn : ps.Nodup) (hp : ∀ c ∈ cs, predS c.h ∈ ps) {e : LvE} (he : e ∈ edI ps cs) : e ∈ edT cs ps ps.length := by
  obtain ⟨i, p, h2, h3⟩ := (edS_iff hn hp).1 he
  exact edT_mem.2 ⟨i, p, lt_of_get h2, h2, h3⟩
def bdL (n : Nat) (B : Int) (l : List Int) : Prop := l.length = n ∧ ∀ q, 0 ≤ l.getD q 0 ∧ l.getD q 0 ≤ B
theorem bdL.mono {n : Nat} {B B' : Int} {l : List Int} (h : bdL n B l) (hB : B ≤ B') : bdL n B' l := ⟨h.1, fun q => ⟨(h.2 q).1, by have := (h.2 q).2; omega⟩⟩
theorem rlx_bdL {ps : List ByteArray} {n : Nat} {B : Int} {i : Nat} {a : LvA} {s : ByteArray} {w : Bool} (h : bdL n B a.1) (hB : 0 ≤ B) : bdL n (B + 1) (rlx ps i a s w).1 := by
  have h1 := rlxE_len ps a (i, s, w)
  have h2 := rlxE_le (ps := ps) (a := a) (e := (i, s, w)) (fun q => (h.2 q).2) hB
  refine ⟨h1.trans h.1, fun q => ⟨?_, h2 q⟩⟩
  unfold rlx
  have hw := wB_bd w
  split
  · exact (h.2 q).1
  · split
    · simp only
      rw [getD_set]
      split
      · have := (h.2 (idxP ps s).toNat).1; omega
      · exact (h.2 q).1
    · exact (h.2 q).1
theorem bdL_zero (n : Nat) : bdL n n (List.replicate n 0) := by
  have : ∀ i, (List.replicate n (0 : Int)).getD i 0 = 0 := fun i => by
    simp only [List.getD_eq_getElem?_getD, List.getElem?_replicate]
    split <;> rfl
  exact ⟨by simp, fun q => by rw [this]; omega⟩
def mL (n : Nat) (ch : Bool) (l : List Int) : Nat := if ch = true then ((n : Int) * n - sumL l).toNat + 1 else 0
theorem mL_lt {n : Nat} {ch : Bool} {l l2 : List Int} (h : ch = true → sumL l < sumL l2) (hb : bdL n n l2) : mL n ch l2 < mL n true l := by
  unfold mL
  have h1 := sumL_le (B := n) (l := l2) (fun i => (hb.2 i).2)
  rw [hb.1] at h1
  cases ch with
  | false => simp
  | true =>
    have := h rfl
    simp only [if_pos]
    omega
theorem edI_lt {cs : List Cl} {ps : List ByteArray} (hn : ps.Nodup) (hp : ∀ c ∈ cs, predS c.h ∈ ps) {e : LvE} (he : e ∈ edI ps cs) : e.1 < ps.length := by
  obtain ⟨i, p, h2, h3⟩ := (edS_iff hn hp).1 he
  rw [(edS_mem.1 h3).1]; exact lt_of_get h2
theorem pass_end {cs : List Cl} {ps : List ByteArray} {es : List LvE} {l l2 : List Int} {ch : Bool} (hn : ps.Nodup) (hp : ∀ c ∈ cs, predS c.h ∈ ps) (hs : ∀ e ∈ es, e ∈ edI ps cs) (ha : ∀ e ∈ edI ps cs, e ∈ es)
    (hB : BelL ps (· ∈ edI ps cs) l) (h : (l2, ch) = runE ps es (l, false)) : BelL ps (· ∈ edI ps cs) l2 ∧ (ch = false → SolL ps (· ∈ edI ps cs) l2 ∧ l2 = l) ∧ (ch = true → sumL l < sumL l2) := by
  have e1 : l2 = (runE ps es (l, false)).1 := by rw [← h]
  have e2 : ch = (runE ps es (l, false)).2 := by rw [← h]
  refine ⟨e1 ▸ runE_bel hs hB, fun hc => ?_, fun hc => ?_⟩
  · obtain ⟨h1, h2, h3⟩ := runE_stay (ps := ps) (es := es) (a := (l, false)) (by rw [← e2]; exact hc)
    have e3 : l2 = l := by rw [e1, h2]
    subst e3
    exact ⟨⟨hB.len, hB.nn, fun e he => h3 e (ha e he)⟩, rfl⟩
  · rw [e1]
    exact (runE_sum (ps := ps) (es := es) (a := (l, false)) (fun e he => by rw [hB.len]; exact edI_lt hn hp (hs e he))).2 rfl (by rw [← e2]; exact hc)
theorem runE_other {ps : List ByteArray} {i q : Nat} (hq : q ≠ i) : ∀ {es : List LvE} {a : LvA}, (∀ e ∈ es, e.1 = i) → (runE ps es a).1.getD q 0 = a.1.getD q 0
  | [], _, _ => rfl
  | e :: r, a, he => by
    rw [runE_cons, runE_other hq (fun x hx => he x (by simp [hx]))]
    have h := he e (by simp)
    unfold rlxE rlx
    split
    · rfl
    · split
      · simp only
        rw [getD_set, if_neg (by rw [h]; exact fun h2 => hq h2.1.symm)]
      · rfl
theorem bdL_pass {ps : List ByteArray} {cs : List Cl} {i : Nat} {p : ByteArray} {l2 l3 : List Int} {c2 c3 : Bool} {B : Int} (hb : bdL ps.length ps.length l2) (h3 : bdL ps.length B l3) (h : (l3, c3) = runE ps (edS cs i p) (l2, c2)) (hi : l3.getD i 0 ≤ ps.length) : bdL ps.length ps.length l3 := by
  refine ⟨h3.1, fun q => ⟨(h3.2 q).1, ?_⟩⟩
  by_cases hq : q = i
  · subst hq; exact hi
  · have h1 : l3 = (runE ps (edS cs i p) (l2, c2)).1 := by rw [← h]
    rw [h1, runE_other hq (fun e he => (edS_mem.1 he).1)]
    exact (hb.2 q).2
theorem bel_pass {ps : List ByteArray} {cs : List Cl} (hn : ps.Nodup) (hp : ∀ c ∈ cs, predS c.h ∈ ps) {i n : Nat} {p : ByteArray} (hip : ps[i]? = some p) {l l2 l3 : List Int} {c2 c3 : Bool} (hB : BelL ps (· ∈ edI ps cs) l) (h2 : (l2, c2) = runE ps (edT cs ps n) (l, false)) (h : (l3, c3) = runE ps (edS cs i p) (l2, c2)) : BelL ps (· ∈ edI ps cs) l3 := by
  have e2 : l2 = (runE ps (edT cs ps n) (l, false)).1 := by rw [← h2]
  have e3 : l3 = (runE ps (edS cs i p) (l2, c2)).1 := by rw [← h]
  have hB2 : BelL ps (· ∈ edI ps cs) l2 := e2 ▸ runE_bel (edT_sub hn hp) hB
  exact e3 ▸ runE_bel (fun e he => (edS_iff hn hp).2 ⟨i, p, hip, he⟩) hB2
theorem edKs_one (cs : List Cl) (i : Nat) (p : ByteArray) (k : Nat) (hk : k < 2) (ps : List ByteArray) (a : LvA) : runE ps (edKs cs i p (k + 1)) a = runE ps (edK cs i p (decide ((k : Int) = 1))) (runE ps (edKs cs i p k) a) := by
  match k, hk with
  | 0, _ => rfl
  | 1, _ => show runE ps (edS cs i p) a = _; rw [edS, runE_app]; rfl
theorem levOf_eq' {d : Dbt} {ps : List ByteArray} {R : LvA} (hps : ps = predsF d.cs []) (h : levR ps (· ∈ edI ps d.cs) R) : levOf d = R := by subst hps; exact levOf_eq h
theorem ints_set (l : List Int) (i : Nat) (v : Int) : ((ints l).map V.d).set i (.d (.c (.int .i64 v))) = (ints (l.set i v)).map V.d := by simp [ints, List.map_set]
theorem ints_es {l : List Int} {i : Nat} (h : i < l.length) : ((ints l).map V.d)[i]? = some (.d (.c (.int .i64 (l.getD i 0)))) := by
  simp [ints, List.getD_eq_getElem?_getD, h]
theorem rlx_neg {ps : List ByteArray} {i : Nat} {a : LvA} {s : ByteArray} {n : Bool} (h : idxS ps s 0 < 0) : rlx ps i a s n = a := by unfold rlx idxP; rw [if_pos h]
theorem rlx_lt {ps : List ByteArray} {i : Nat} {a : LvA} {s : ByteArray} {n : Bool} (h0 : 0 ≤ idxS ps s 0) (h : a.1.getD i 0 < a.1.getD (idxS ps s 0).toNat 0 + wB n) : rlx ps i a s n = (a.1.set i (a.1.getD (idxS ps s 0).toNat 0 + wB n), true) := by unfold rlx idxP; rw [if_neg (by omega), if_pos h]
theorem rlx_ge {ps : List ByteArray} {i : Nat} {a : LvA} {s : ByteArray} {n : Bool} (h0 : 0 ≤ idxS ps s 0) (h : ¬ a.1.getD i 0 < a.1.getD (idxS ps s 0).toNat 0 + wB n) : rlx ps i a s n = a := by unfold rlx idxP; rw [if_neg (by omega), if_neg h]
theorem runE_bdL {ps : List ByteArray} {n : Nat} : ∀ {es : List LvE} {a : LvA} {B : Int}, bdL n B a.1 → 0 ≤ B → bdL n (B + es.length) (runE ps es a).1
  | [], _, _, h, _ => by simpa [runE] using h
  | e :: r, a, B, h, hB => by
    rw [runE_cons]
    have h1 : bdL n (B + 1) (rlxE ps a e).1 := rlx_bdL h hB
    have := runE_bdL (ps := ps) (es := r) h1 (by omega)
    exact this.mono (by simp only [List.length_cons]; push_cast; omega)
theorem impCl_bdL {ps : List ByteArray} {n : Nat} {c : Cl} {a : LvA} {B : Int} (h : bdL n B a.1) (hB : 0 ≤ B) : bdL n (B + sz c.b) (impCl ps c a).1 := by
  rw [impCl_run]
  have := edC_len ps c
  exact (runE_bdL h hB).mono (by omega)
theorem bdL.sup {n : Nat} {B : Int} {l : List Int} (h : bdL n B l) (hB : 0 ≤ B) : supL l ≤ B := supL_le hB fun q => (h.2 q).2
theorem bdL.good {ps : List ByteArray} {B : Int} {l : List Int} {c : Bool} (h : bdL ps.length B l) : goodL ps (l, c) := ⟨h.1, fun q => (h.2 q).1⟩
theorem round_end {cs : List Cl} {ps : List ByteArray} {l l2 : List Int} {ch : Bool} (hn : ps.Nodup) (hp : ∀ c ∈ cs, predS c.h ∈ ps) (hB : BelL ps (· ∈ edI ps cs) l) (h : impL ps cs (l, false) = (l2, ch)) :
    BelL ps (· ∈ edI ps cs) l2 ∧ (ch = false → SolL ps (· ∈ edI ps cs) l2 ∧ l2 = l) ∧ (ch = true → sumL l < sumL l2) :=
  pass_end hn hp (fun _ h => h) (fun _ h => h) hB (by rw [← h, impL_run])
theorem sum_ne {l : List Int} {l2 : List Int} (h : sumL l < sumL l2) (hb : ∀ i, 0 ≤ l.getD i 0) : l2 ≠ [] := by
  rintro rfl
  have : ∀ {l : List Int}, (∀ i, 0 ≤ l.getD i 0) → 0 ≤ sumL l := by
    intro l
    induction l with
    | nil => intro _; simp [sumL]
    | cons x r ih =>
      intro h
      have h0 := h 0
      have := ih (fun i => by have := h (i + 1); simpa using this)
      simp only [List.getD_cons_zero] at h0
      simp only [sumL]; omega
  have := this hb
  simp only [sumL] at h
  omega
end Go.Eng

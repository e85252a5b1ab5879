/- Lists that are turned in place. -/
import Derived.Test.YtjhdkjacfclipaaHs
import Derived.Test.YtjhdkjacfclipaaSp
set_option linter.unusedVariables false
set_option linter.unusedSimpArgs false
namespace Go.Eng
theorem setL_at {α : Type} (P M : List α) (x z : α) {i : Nat} (hi : P.length = i) : (P ++ x :: M).set i z = P ++ z :: M := by
  subst hi; rw [List.set_append_right _ _ (Nat.le_refl _)]; simp
theorem getL_at {α : Type} (P M : List α) (x : α) {i : Nat} (hi : P.length = i) : (P ++ x :: M)[i]? = some x := by
  subst hi; rw [List.getElem?_append_right (Nat.le_refl _)]; simp
theorem swapL_at {α : Type} (P M Q : List α) (x y : α) {i j : Nat} (hi : P.length = i) (hj : (P ++ x :: M).length = j) : ((P ++ x :: M ++ y :: Q).set i y).set j x = P ++ y :: M ++ x :: Q := by
  rw [List.append_assoc, List.cons_append, setL_at _ _ _ _ hi, ← List.cons_append, ← List.append_assoc, setL_at _ _ _ _ (by simpa using hj)]
theorem swapR_at {α : Type} (P M Q : List α) (x y : α) {i j : Nat} (hi : P.length = i) (hj : (P ++ x :: M).length = j) : ((P ++ x :: M ++ y :: Q).set j x).set i y = P ++ y :: M ++ x :: Q := by
  rw [setL_at _ _ _ _ hj, List.append_assoc, List.cons_append, setL_at _ _ _ _ hi, ← List.cons_append, ← List.append_assoc]
/-- Two ranges of one length, i places of them changed over. -/
def swR (pre A mid B post : List D) (i : Nat) : List D := pre ++ (B.take i ++ A.drop i) ++ mid ++ (A.take i ++ B.drop i) ++ post
theorem swR_form {pre A mid B post : List D} {i : Nat} {x y : D} (hx : A[i]? = some x) (hy : B[i]? = some y) : swR pre A mid B post i = (pre ++ B.take i) ++ x :: (A.drop (i + 1) ++ mid ++ A.take i) ++ y :: (B.drop (i + 1) ++ post) := by
  unfold swR
  rw [drop_get hx, drop_get hy]; simp
theorem swR_step {pre A mid B post : List D} {i : Nat} {x y : D} (hx : A[i]? = some x) (hy : B[i]? = some y) : swR pre A mid B post (i + 1) = (pre ++ B.take i) ++ y :: (A.drop (i + 1) ++ mid ++ A.take i) ++ x :: (B.drop (i + 1) ++ post) := by
  unfold swR
  rw [take_succ_get hx, take_succ_get hy]; simp
/-! ### Elements that read as terms -/
abbrev TD := T × D
def dsP (ps : List TD) : List D := ps.map (·.2)
structure PL (pool : List (D × D)) (p : TD) : Prop where
  mem : (p.2, inj p.1) ∈ pool
  len : p.2.len? = 4
  ag : p.2.isAgg = true
  rt : Rt p.1
def SrtP (ps : List TD) : Prop := ps.Pairwise fun a b => cmpT a.1 b.1 ≤ 0
@[simp] theorem dsP_length (ps : List TD) : (dsP ps).length = ps.length := by simp [dsP]
theorem dsP_get {ps : List TD} {i : Nat} {p : TD} (h : ps[i]? = some p) : ((dsP ps).map V.d)[i]? = some (.d p.2) := by simp [dsP, h]
theorem dsP_set (ps : List TD) (i : Nat) (p : TD) : ((dsP ps).map V.d).set i (.d p.2) = (dsP (ps.set i p)).map V.d := by simp [dsP, List.map_set]
theorem dsP_set2 (ps : List TD) (i j : Nat) (p q : TD) : (((dsP ps).map V.d).set i (.d p.2)).set j (.d q.2) = (dsP ((ps.set i p).set j q)).map V.d := by rw [dsP_set, dsP_set]
theorem inj_isAgg (t : T) : (inj t).isAgg = true := by cases t; rfl
theorem PL.v {pool : List (D × D)} {p : TD} (h : PL pool p) : RdC pool (.d p.2) (inj p.1) := .cv h.mem (by rw [h.ag, inj_isAgg])
/-- An element goes down through those above it. -/
theorem srt_put {S1 S2 : List TD} {x : TD} (hx : Rt x.1) (hr : ∀ p ∈ S1 ++ S2, Rt p.1) (h : SrtP (S1 ++ S2)) (h2 : ∀ p ∈ S2, cmpT x.1 p.1 < 0) (h1 : ∀ s, S1.getLast? = some s → 0 ≤ cmpT x.1 s.1) : SrtP (S1 ++ x :: S2) := by
  unfold SrtP at h ⊢
  rw [List.pairwise_append] at h ⊢
  obtain ⟨k1, k2, k3⟩ := h
  have hle : ∀ p ∈ S1, cmpT p.1 x.1 ≤ 0 := by
    intro p hp
    rcases List.eq_nil_or_concat S1 with e | ⟨S0, s, e⟩
    · subst e; cases hp
    · rw [List.concat_eq_append] at e
      have hs := h1 s (by rw [e]; simp)
      have hsx : cmpT s.1 x.1 ≤ 0 := by
        have := cmp_neg x.1 hx s.1 (hr s (by rw [e]; simp))
        omega
      rw [e] at hp k1
      rcases List.mem_append.1 hp with hp | hp
      · have hps := (List.pairwise_append.1 k1).2.2 p hp s (by simp)
        exact (cmp_tr p.1 (hr p (by rw [e]; simp [hp])) s.1 x.1 (hr s (by rw [e]; simp)) hx).1 hps hsx
      · rw [List.mem_singleton.1 hp]; exact hsx
  refine ⟨k1, List.pairwise_cons.2 ⟨fun p hp => by have := h2 p hp; omega, k2⟩, fun a ha b hb => ?_⟩
  rcases List.mem_cons.1 hb with rfl | hb
  · exact hle a ha
  · exact k3 a ha b hb
theorem take_one_srt (A : List TD) : SrtP (A.take 1) := by
  cases A <;> simp [SrtP]
theorem Vx_refe {r : Nat → Option Nat} {l : Lay} {i j off m m' : Nat} (h : r j = some i) (hm : m = m') : Vx r (.ref l i off m) (.ref l j off m') := by subst hm; exact .ref h
theorem Vx_int {r : Nat → Option Nat} {a b : Int} (h : a = b) : Vx r (i64 a) (i64 b) := by subst h; exact .d
/-! ### Merging -/
theorem srt_last {S : List TD} (hr : ∀ p ∈ S, Rt p.1) (h : SrtP S) {s : TD} (hs : S.getLast? = some s) : ∀ p ∈ S, cmpT p.1 s.1 ≤ 0 := by
  intro p hp
  rcases List.eq_nil_or_concat S with e | ⟨S0, t, e⟩
  · subst e; cases hp
  · rw [List.concat_eq_append] at e
    subst e
    simp at hs
    subst hs
    rcases List.mem_append.1 hp with hp | hp
    · exact (List.pairwise_append.1 h).2.2 p hp t (by simp)
    · rw [List.mem_singleton.1 hp, cmp_self t.1 (hr t (by simp))]; omega
theorem srt_head {S : List TD} (hr : ∀ p ∈ S, Rt p.1) (h : SrtP S) {s : TD} (hs : S.head? = some s) : ∀ p ∈ S, cmpT s.1 p.1 ≤ 0 := by
  intro p hp
  cases S with
  | nil => cases hp
  | cons t r =>
    simp at hs
    subst hs
    rcases List.mem_cons.1 hp with rfl | hp
    · rw [cmp_self p.1 (hr p (by simp))]; omega
    · exact (List.pairwise_cons.1 h).1 p hp
theorem srt_cross {S1 S2 : List TD} (r1 : ∀ p ∈ S1, Rt p.1) (r2 : ∀ p ∈ S2, Rt p.1) (h1 : SrtP S1) (h2 : SrtP S2) (h : ∀ x y, S1.getLast? = some x → S2.head? = some y → cmpT x.1 y.1 ≤ 0) : ∀ p ∈ S1, ∀ q ∈ S2, cmpT p.1 q.1 ≤ 0 := by
  intro p hp q hq
  obtain ⟨x, hx⟩ : ∃ x, S1.getLast? = some x := by
    cases e : S1.getLast? with
    | none => rw [List.getLast?_eq_none_iff] at e; subst e; cases hp
    | some x => exact ⟨x, rfl⟩
  obtain ⟨y, hy⟩ : ∃ y, S2.head? = some y := by
    cases S2 with
    | nil => cases hq
    | cons y r => exact ⟨y, rfl⟩
  have hxm : x ∈ S1 := List.mem_of_getLast? hx
  have hym : y ∈ S2 := List.mem_of_head? hy
  have a1 := srt_last r1 h1 hx p hp
  have a2 := srt_head r2 h2 hy q hq
  have a3 := (cmp_tr p.1 (r1 p hp) x.1 y.1 (r1 x hxm) (r2 y hym)).1 a1 (h x y hx hy)
  exact (cmp_tr p.1 (r1 p hp) y.1 q.1 (r2 y hym) (r2 q hq)).1 a3 a2
theorem merge_srt {A1 A2 B1 B2 C1 C2 : List TD} (rA : ∀ p ∈ A1 ++ A2, Rt p.1) (rB : ∀ p ∈ B1 ++ B2, Rt p.1) (hA : SrtP (A1 ++ A2)) (hB : SrtP (B1 ++ B2)) (h1 : ∀ x y, A1.getLast? = some x → B2.head? = some y → cmpT x.1 y.1 ≤ 0)
    (h2 : ∀ x y, B1.getLast? = some x → A2.head? = some y → cmpT x.1 y.1 ≤ 0) (hC1 : C1.Perm (A1 ++ B1)) (hC2 : C2.Perm (A2 ++ B2)) (s1 : SrtP C1) (s2 : SrtP C2) : SrtP (C1 ++ C2) := by
  obtain ⟨a1, a2, a3⟩ := List.pairwise_append.1 hA
  obtain ⟨b1, b2, b3⟩ := List.pairwise_append.1 hB
  have rA1 : ∀ p ∈ A1, Rt p.1 := fun p hp => rA p (List.mem_append_left _ hp)
  have rA2 : ∀ p ∈ A2, Rt p.1 := fun p hp => rA p (List.mem_append_right _ hp)
  have rB1 : ∀ p ∈ B1, Rt p.1 := fun p hp => rB p (List.mem_append_left _ hp)
  have rB2 : ∀ p ∈ B2, Rt p.1 := fun p hp => rB p (List.mem_append_right _ hp)
  refine List.pairwise_append.2 ⟨s1, s2, fun p hp q hq => ?_⟩
  rcases List.mem_append.1 (hC1.mem_iff.1 hp) with hp | hp <;> rcases List.mem_append.1 (hC2.mem_iff.1 hq) with hq | hq
  · exact a3 p hp q hq
  · exact srt_cross rA1 rB2 a1 b2 h1 p hp q hq
  · exact srt_cross rB1 rA2 b1 a2 h2 p hp q hq
  · exact b3 p hp q hq
theorem merge_perm {A1 A2 B1 B2 C1 C2 : List TD} (hC1 : C1.Perm (A1 ++ B1)) (hC2 : C2.Perm (A2 ++ B2)) : (C1 ++ C2).Perm ((A1 ++ A2) ++ (B1 ++ B2)) := by
  refine (hC1.append hC2).trans ?_
  rw [List.append_assoc, List.append_assoc]
  refine List.Perm.append_left A1 ?_
  rw [← List.append_assoc, ← List.append_assoc]
  exact (List.perm_append_comm).append_right B2
/-- One element put between. -/
theorem srt_mid {S1 S2 : List TD} {x : TD} (hx : Rt x.1) (hr : ∀ p ∈ S1 ++ S2, Rt p.1) (h : SrtP (S1 ++ S2)) (h1 : ∀ s, S1.getLast? = some s → cmpT s.1 x.1 ≤ 0) (h2 : ∀ s, S2.head? = some s → cmpT x.1 s.1 ≤ 0) : SrtP (S1 ++ x :: S2) := by
  obtain ⟨k1, k2, k3⟩ := List.pairwise_append.1 h
  have r1 : ∀ p ∈ S1, Rt p.1 := fun p hp => hr p (List.mem_append_left _ hp)
  have r2 : ∀ p ∈ S2, Rt p.1 := fun p hp => hr p (List.mem_append_right _ hp)
  have e1 : ∀ p ∈ S1, cmpT p.1 x.1 ≤ 0 := fun p hp => srt_cross r1 (S2 := [x]) (by simpa using hx) k1 (by simp [SrtP]) (fun a b ha hb => by simp at hb; subst hb; exact h1 a ha) p hp x (by simp)
  have e2 : ∀ p ∈ S2, cmpT x.1 p.1 ≤ 0 := fun p hp => srt_cross (S1 := [x]) (by simpa using hx) r2 (by simp [SrtP]) k2 (fun a b ha hb => by simp at ha; subst ha; exact h2 b hb) x (by simp) p hp
  refine List.pairwise_append.2 ⟨k1, List.pairwise_cons.2 ⟨e2, k2⟩, fun a ha b hb => ?_⟩
  rcases List.mem_cons.1 hb with rfl | hb
  · exact e1 a ha
  · exact k3 a ha b hb
theorem wrapU {z : Int} (h0 : 0 ≤ z) (h1 : z ≤ 8796093022208) : IntKind.u64.wrap z = z := by
  simp only [IntKind.wrap, IntKind.bits, IntKind.signed]
  first
    | (rw [Int.emod_eq_of_lt h0 (by omega)]; done)
    | (simp; omega)
theorem halfU {z : Int} (h0 : 0 ≤ z) (h1 : z ≤ 8796093022208) : IntKind.i64.wrap (z.fdiv (2 ^ (min (1 : Int).toNat IntKind.u64.bits))) = z / 2 := by
  have e : z.fdiv (2 ^ (min (1 : Int).toNat IntKind.u64.bits)) = z / 2 := by
    have : (2 : Int) ^ (min (1 : Int).toNat IntKind.u64.bits) = 2 := by decide
    rw [this, Int.fdiv_eq_ediv_of_nonneg _ (by omega)]
  rw [e]
  exact wrap_id (by omega) (by omega)
theorem last_take {α : Type} {B : List α} {t : Nat} (ht : t ≤ B.length) {s : α} (h : (B.take t).getLast? = some s) : 0 < t ∧ B[t - 1]? = some s := by
  cases t with
  | zero => simp at h
  | succ t =>
    obtain ⟨x, hx⟩ : ∃ x, B[t]? = some x := ⟨_, List.getElem?_eq_getElem (by omega)⟩
    rw [take_succ_get hx] at h
    simp at h
    subst h
    exact ⟨by omega, by simpa using hx⟩
theorem SrtP.take {S : List TD} (h : SrtP S) (n : Nat) : SrtP (S.take n) := List.Pairwise.sublist (List.take_sublist _ _) h
theorem SrtP.drop {S : List TD} (h : SrtP S) (n : Nat) : SrtP (S.drop n) := List.Pairwise.sublist (List.drop_sublist _ _) h
/-- Two sorted lists, cut where they cross, each half merged. -/
theorem merge_fin {A B C1 C2 : List TD} {lo k : Nat} (hr : ∀ p ∈ A ++ B, Rt p.1) (hA : SrtP A) (hB : SrtP B) (h1 : ∀ x y, 0 < lo → A[lo - 1]? = some x → B[k]? = some y → cmpT x.1 y.1 ≤ 0) (h2 : ∀ x y, 0 < k → B[k - 1]? = some x → A[lo]? = some y → cmpT x.1 y.1 ≤ 0) (hlo : lo ≤ A.length) (hk : k ≤ B.length)
    (hC1 : C1.Perm (A.take lo ++ B.take k)) (hC2 : C2.Perm (A.drop lo ++ B.drop k)) (s1 : SrtP C1) (s2 : SrtP C2) : (C1 ++ C2).Perm (A ++ B) ∧ SrtP (C1 ++ C2) := by
  have e1 := List.take_append_drop lo A
  have e2 := List.take_append_drop k B
  refine ⟨by have := merge_perm hC1 hC2; rwa [e1, e2] at this, ?_⟩
  refine merge_srt (A1 := A.take lo) (A2 := A.drop lo) (B1 := B.take k) (B2 := B.drop k) (by rw [e1]; exact fun p hp => hr p (List.mem_append_left _ hp)) (by rw [e2]; exact fun p hp => hr p (List.mem_append_right _ hp)) (by rw [e1]; exact hA) (by rw [e2]; exact hB) ?_ ?_ hC1 hC2 s1 s2
  · intro x y hx hy
    obtain ⟨k0, k1⟩ := last_take hlo hx
    rw [List.head?_drop] at hy
    exact h1 x y k0 k1 hy
  · intro x y hx hy
    obtain ⟨k0, k1⟩ := last_take hk hx
    rw [List.head?_drop] at hy
    exact h2 x y k0 k1 hy
/-- Ways that meet in a state that is told with something. -/
theorem joinFE {C : Cx} {n : Nat} {f : Fr} {L : Hp} {A : Type} {F : A → Prop} {sl : A → List (Nat × V)} {L2 : A → Hp} (q : A) (src : List (Option Nat)) (hlen : src.length = (L2 q).length) (hnd : nodupS src = true) (hF : F q) (hb : BxTo L src 0 (L2 q)) (hs : SlTo L src f (sl q)) :
    Fin C n (fun a w => ∃ f' L' β S, Rel C n f' L' a w β S ∧ ∃ q, F q ∧ f' = frOf (sl q) ∧ L' = L2 q) f L := fin_wk (Wk_to src _ (L2 q) hlen hnd hb hs ⟨q, hF, rfl, rfl⟩)
end Go.Eng

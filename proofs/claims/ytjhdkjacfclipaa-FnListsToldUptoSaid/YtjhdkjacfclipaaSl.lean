/- Lists of trees that are put in another order. -/
import Derived.Test.YtjhdkjacfclipaaSk
set_option linter.unusedVariables false
set_option linter.unusedSimpArgs false
namespace Go.Eng
theorem perm_of_map {A B : Type} (g : A → B) : ∀ {l1 l2 : List B}, l1.Perm l2 → ∀ zs : List A, l2 = zs.map g → ∃ zs' : List A, zs'.Perm zs ∧ l1 = zs'.map g := by
  intro l1 l2 h
  induction h with
  | nil => intro zs e; cases zs with
    | nil => exact ⟨[], .refl _, rfl⟩
    | cons z r => simp at e
  | cons x _ ih =>
    intro zs e
    cases zs with
    | nil => simp at e
    | cons z r =>
      simp at e
      obtain ⟨r', k1, k2⟩ := ih r e.2
      exact ⟨z :: r', k1.cons z, by rw [k2, e.1]; rfl⟩
  | swap x y l =>
    intro zs e
    match zs, e with
    | [], e => simp at e
    | [z], e => simp at e
    | a :: b :: r, e =>
      simp at e
      exact ⟨b :: a :: r, List.Perm.swap a b r, by rw [e.1, e.2.1, e.2.2]; rfl⟩
  | trans _ _ ih1 ih2 =>
    intro zs e
    obtain ⟨z2, k1, k2⟩ := ih2 zs e
    obtain ⟨z1, m1, m2⟩ := ih1 z2 k2
    exact ⟨z1, m1.trans k1, m2⟩
/-- Trees with their cells. -/
def TrZ (w : World) (l : Lay) (zs : List (D × List Value)) (K : List Nat) : Prop := Trs w (List.replicate zs.length l) (zs.map (·.1)) (zs.map (·.2)).flatten K ∧ ∀ z ∈ zs, z.2.length = l.len
theorem TrZ.nil {w : World} {l : Lay} : TrZ w l [] [] := ⟨by simp [Trs], by simp⟩
theorem TrZ.cons_iff {w : World} {l : Lay} {z : D × List Value} {zs : List (D × List Value)} {K : List Nat} : TrZ w l (z :: zs) K ↔ ∃ M1 M2, K = M1 ++ M2 ∧ (∀ b ∈ M1, b ∉ M2) ∧ Tr w z.1 z.2 M1 ∧ z.2.length = l.len ∧ TrZ w l zs M2 := by
  constructor
  · rintro ⟨h, hl⟩
    simp only [List.length_cons, List.replicate_succ, List.map_cons, List.flatten_cons, Trs] at h
    obtain ⟨f, fr, c1, c2, M1, M2, e1, e2, e3, e4, e5, e6, e7⟩ := h
    injection e1 with e1 e1'
    subst e1; subst e1'
    obtain ⟨q1, q2⟩ := List.append_inj e2 (by rw [hl z (by simp), e3])
    exact ⟨M1, M2, e4, e5, q1 ▸ e6, hl z (by simp), by rw [TrZ, q2]; exact ⟨e7, fun y hy => hl y (by simp [hy])⟩⟩
  · rintro ⟨M1, M2, e4, e5, e6, e7, e8⟩
    refine ⟨?_, fun y hy => ?_⟩
    · simp only [List.length_cons, List.replicate_succ, List.map_cons, List.flatten_cons, Trs]
      exact ⟨l, _, z.2, _, M1, M2, rfl, rfl, e7, e4, e5, e6, e8.1⟩
    · rcases List.mem_cons.1 hy with rfl | hy
      · exact e7
      · exact e8.2 y hy
theorem TrZ.perm {w : World} {l : Lay} {zs zs' : List (D × List Value)} (h : zs'.Perm zs) : ∀ K, TrZ w l zs K → ∃ K', TrZ w l zs' K' ∧ ∀ b, b ∈ K' ↔ b ∈ K := by
  induction h with
  | nil => intro K h; exact ⟨K, h, fun _ => Iff.rfl⟩
  | cons z _ ih =>
    intro K h
    obtain ⟨M1, M2, rfl, k2, k3, k4, k5⟩ := TrZ.cons_iff.1 h
    obtain ⟨K', q1, q2⟩ := ih M2 k5
    exact ⟨M1 ++ K', TrZ.cons_iff.2 ⟨M1, K', rfl, fun b hb hb2 => k2 b hb ((q2 b).1 hb2), k3, k4, q1⟩, fun b => by simp [q2 b]⟩
  | swap x y l =>
    intro K h
    obtain ⟨M1, M2, rfl, k2, k3, k4, k5⟩ := TrZ.cons_iff.1 h
    obtain ⟨N1, N2, rfl, m2, m3, m4, m5⟩ := TrZ.cons_iff.1 k5
    refine ⟨N1 ++ (M1 ++ N2), TrZ.cons_iff.2 ⟨N1, M1 ++ N2, rfl, ?_, m3, m4, TrZ.cons_iff.2 ⟨M1, N2, rfl, fun b hb hb2 => k2 b hb (by simp [hb2]), k3, k4, m5⟩⟩, fun b => ?_⟩
    · intro b hb hb2
      rcases List.mem_append.1 hb2 with hb2 | hb2
      · exact k2 b hb2 (by simp [hb])
      · exact m2 b hb hb2
    · simp only [List.mem_append]
      constructor
      · rintro (h | h | h)
        · exact .inr (.inl h)
        · exact .inl h
        · exact .inr (.inr h)
      · rintro (h | h | h)
        · exact .inr (.inl h)
        · exact .inl h
        · exact .inr (.inr h)
  | trans _ _ ih1 ih2 =>
    intro K h
    obtain ⟨K2, q1, q2⟩ := ih2 K h
    obtain ⟨K3, m1, m2⟩ := ih1 K2 q1
    exact ⟨K3, m1, fun b => (m2 b).trans (q2 b)⟩
abbrev TZ := T × List Value
def psZ (zs : List TZ) : List TD := zs.map fun z => (z.1, rawD LT z.2)
def poolZ (zs : List TZ) : List (D × D) := zs.map fun z => (rawD LT z.2, inj z.1)
theorem dsP_psZ (zs : List TZ) : dsP (psZ zs) = (zs.map (·.2)).map (rawD LT) := by simp [dsP, psZ]
theorem zip_fst {A B : Type} : ∀ (xs : List A) (ys : List B), ys.length = xs.length → (xs.zip ys).map (·.1) = xs
  | [], [], _ => rfl
  | x :: xs, y :: ys, h => by simp [zip_fst xs ys (by simpa using h)]
  | [], _ :: _, h => by simp at h
  | _ :: _, [], h => by simp at h
theorem zip_snd {A B : Type} : ∀ (xs : List A) (ys : List B), ys.length = xs.length → (xs.zip ys).map (·.2) = ys
  | [], [], _ => rfl
  | x :: xs, y :: ys, h => by simp [zip_snd xs ys (by simpa using h)]
  | [], _ :: _, h => by simp at h
  | _ :: _, [], h => by simp at h
section
variable {B : Nat} {C : Cx} {css : List (List Value)} {ts : List T} {K : List Nat}
theorem HasL.trz (h : HasL B C LT css (injs ts) K) : TrZ C.w0 LT ((ts.zip css).map fun z => (inj z.1, z.2)) K := by
  have hl : css.length = ts.length := by have := h.len; simpa using this
  have e1 : ((ts.zip css).map fun z => (inj z.1, z.2)).map (·.1) = injs ts := by
    rw [List.map_map, show ((fun x : D × List Value => x.1) ∘ fun z : T × List Value => (inj z.1, z.2)) = inj ∘ (·.1) from rfl, ← List.map_map, zip_fst ts css hl, injs_map]
  have e2 : ((ts.zip css).map fun z => (inj z.1, z.2)).map (·.2) = css := by
    rw [List.map_map, show ((fun x : D × List Value => x.2) ∘ fun z : T × List Value => (inj z.1, z.2)) = (·.2) from rfl, zip_snd ts css hl]
  refine ⟨?_, fun z hz => ?_⟩
  · rw [e1, e2, List.length_map, List.length_zip, hl, Nat.min_self]
    have := h.tr
    rwa [injs_length] at this
  · have : z.2 ∈ css := e2 ▸ List.mem_map_of_mem hz
    exact h.each _ this
/-- What a sort of trees is told. -/
theorem sort_pool (h : HasL B C LT css (injs ts) K) (hr : ∀ t ∈ ts, Rt t) : ∃ zs : List TZ, zs = ts.zip css ∧ css.map (rawD LT) = dsP (psZ zs) ∧ (psZ zs).length = css.length ∧ (∀ p ∈ psZ zs, PL (poolZ zs) p) ∧ (∀ p ∈ poolZ zs, Cv (· ∈ K) C.w0 p.1 p.2) ∧ (∀ b ∈ K, ¬ C.Dm b ∧ ¬ C.S0 b ∧ b < C.w0.heap.size) := by
  have hl : css.length = ts.length := by have := h.len; simpa using this
  refine ⟨ts.zip css, rfl, ?_, ?_, ?_, ?_, fun b hb => ⟨h.dm b hb, h.s0 b hb, Trs_lt _ _ _ _ h.tr b hb⟩⟩
  · rw [dsP_psZ, zip_snd ts css hl]
  · simp [psZ, hl]
  · intro p hp
    obtain ⟨z, hz, rfl⟩ := List.mem_map.1 hp
    refine ⟨List.mem_map.2 ⟨z, hz, rfl⟩, rawD_len LT _, rawD_isAgg LT _, hr _ ?_⟩
    have := List.mem_map_of_mem (f := (·.1)) hz
    rwa [zip_fst ts css hl] at this
  · intro p hp
    obtain ⟨z, hz, rfl⟩ := List.mem_map.1 hp
    have hz1 : (inj z.1, z.2) ∈ (injs ts).zip css := by
      rw [injs_map]
      rw [List.zip_map_left]
      exact List.mem_map.2 ⟨z, hz, rfl⟩
    obtain ⟨K', k1, k2⟩ := Trs_each (injs ts) css K h.len h.each h.tr _ hz1
    have hc : z.2 ∈ css := by
      have := List.mem_map_of_mem (f := (·.2)) hz
      rwa [zip_snd ts css hl] at this
    exact Cv_raw k1 (h.each _ hc) k2
/-- And what stands behind it. -/
theorem sort_back (h : HasL B C LT css (injs ts) K) {ys : List TD} (hy : ys.Perm (psZ (ts.zip css))) : ∃ css' K', dsP ys = css'.map (rawD LT) ∧ css'.length = ys.length ∧ HasL B C LT css' (injs (ys.map (·.1))) K' := by
  obtain ⟨zs, h1, rfl⟩ := perm_of_map _ hy _ rfl
  obtain ⟨K', k1, k2⟩ := TrZ.perm (h1.map fun z => (inj z.1, z.2)) K h.trz
  refine ⟨zs.map (·.2), K', ?_, ?_, ?_⟩
  · simp [dsP]
  · simp
  · have e1 : (zs.map fun z => ((z.1, rawD LT z.2) : TD)).map (·.1) = zs.map (·.1) := by simp
    rw [e1]
    refine ⟨?_, by simp, fun c hc => ?_, fun b hb => h.dm b ((k2 b).1 hb), fun b hb => h.s0 b ((k2 b).1 hb), fun b hb => h.lo b ((k2 b).1 hb)⟩
    · have := k1.1
      simp only [List.length_map, List.map_map] at this
      rw [injs_map]
      simpa [Function.comp_def] using this
    · obtain ⟨z, hz, rfl⟩ := List.mem_map.1 hc
      exact k1.2 (inj z.1, z.2) (List.mem_map.2 ⟨z, hz, rfl⟩)
end
theorem flat_dsP {zs : List TZ} {ys : List TD} (hy : ys.Perm (psZ zs)) : ∀ v ∈ (dsP ys).map V.d, v.flatv = true := by
  intro v hv
  obtain ⟨d, hd, rfl⟩ := List.mem_map.1 hv
  obtain ⟨p, hp, rfl⟩ := List.mem_map.1 hd
  obtain ⟨z, hz, rfl⟩ := List.mem_map.1 (hy.mem_iff.1 hp)
  exact rawD_flat _ _
theorem srtP_fst {ys : List TD} (h : SrtP ys) : Srt (ys.map (·.1)) := List.pairwise_map.2 h
theorem psZ_fst {ts : List T} {css : List (List Value)} (hl : css.length = ts.length) : (psZ (ts.zip css)).map (·.1) = ts := by
  rw [psZ, List.map_map]
  exact zip_fst ts css hl
theorem sorted_is {ts : List T} {css : List (List Value)} (hl : css.length = (ts.filter okT).length) {ys : List TD} (hy : ys.Perm (psZ ((ts.filter okT).zip css))) (hs : SrtP ys) : ys.map (·.1) = sortF ts [] := by
  refine sortF_eq ?_ (srtP_fst hs)
  have := hy.map (·.1)
  rwa [psZ_fst hl] at this
theorem filter_rt (ts : List T) : ∀ t ∈ ts.filter okT, Rt t := fun t ht => ⟨1, okT_right (List.mem_filter.1 ht).2⟩
theorem filter_take {ts : List T} {j : Nat} {u : T} (hu : ts[j]? = some u) : (ts.take (j + 1)).filter okT = (ts.take j).filter okT ++ (if okT u = true then [u] else []) := by
  rw [take_succ_get hu, List.filter_append]
  congr 1
  by_cases h : okT u = true <;> simp [h]
theorem szs_perm {a b : List T} (h : a.Perm b) : szs a = szs b := by
  induction h with
  | nil => rfl
  | cons x _ ih => simp only [szs, ih]
  | swap x y l => simp only [szs]; omega
  | trans _ _ h1 h2 => rw [h1, h2]
end Go.Eng

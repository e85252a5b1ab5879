/- The engine: calls that only read what a state owns; calls that mark trees in place. -/
import Derived.Test.YtleahipnknainaaDoorEng20
set_option linter.unusedVariables false
set_option linter.unusedSimpArgs false
namespace Go.Eng

/-- What a value reads as while nobody writes. -/
inductive RdA (C : Cx) (L : Hp) : V → D → Prop
  | rd {v : V} {d : D} : Reads L (fun _ => True) v d → RdA C L v d
  | raw {B : Nat} {l : Lay} {d : D} {cs : List Value} {K : List Nat} : Has B C d cs K → cs.length = l.len → l.ag = d.isAgg → RdA C L (rawV l cs) d

section
variable {P : Program} {C : Cx} {n : Nat} {f : Fr} {L : Hp} {Q : AQ} {ops : Array Oper} {rest : List Oper} {dst : Option Tmp} {ty : TypeId} {pos : String} {after : Array Edge} {i : Nat} {r : List Nat}

theorem RdA_RD {a : Act} {w : World} {β : Beta} {S : Nat → Prop} (hr : Rel C n f L a w β S) {x : Operand} {v : V} {d : D} (hv : ev f x = v) (h : RdA C L v d) : RD (fun b => b < w.heap.size) w d (a.eval x) := by
  have hvr := rel_ev hr x
  rw [hv] at hvr
  cases h with
  | rd h =>
    have hk : v.known = true := reads_notup h
    have hne : v ≠ .any := by rintro rfl; cases hk
    rcases known_VR0 hvr hk with h1 | ⟨h1, h2⟩
    · exact absurd h1 hne
    · exact ⟨Reads_sound hr.hp hr.hp.fz (fun i bx b c _ hL hb => (hr.hp.bx i bx hL).lt hb) h _ h1, by rw [← Reads_isAgg h, h2]⟩
  | raw h hl ha =>
    rename_i B l cs K
    have hk := rawV_known l cs
    have hne : rawV l cs ≠ .any := by intro e; rw [e] at hk; cases hk
    rcases known_VR0 hvr hk with h1 | ⟨h1, h2⟩
    · exact absurd h1 hne
    · have := rawV_cells l cs _ hl h1
      refine ⟨?_, by rw [← ha, ← rawV_isAgg l cs, h2]⟩
      rw [this]
      have hlt := Tr_lt _ _ _ h.tr
      have hsz := hr.pres.size
      exact Tr_DC _ _ K (fun b hb => by have := hlt b hb; omega) (Tr_keep _ _ _ (fun b hb => hr.pres.block b (hlt b hb) (h.dm b hb)) h.tr)

theorem RdL_RD {a : Act} {w : World} {β : Beta} {S : Nat → Prop} (hr : Rel C n f L a w β S) : ∀ (args : List Operand) (ds : List D), All2 (RdA C L) (args.map (ev f)) ds → All2 (RD (fun b => b < w.heap.size) w) ds (args.map a.eval)
  | [], ds, h => by cases h; exact .nil
  | x :: args, ds, h => by
    cases h with
    | cons h1 h2 => exact .cons (RdA_RD hr rfl h1) (RdL_RD hr args _ h2)

theorem qcall_wp (hT : CT P C) {x : Operand} {args : Array Operand} {ts : Array TypeId} {k : FuncId} {ds : List D} {y : Value} {a : Act} {w : World} {β : Beta} {S : Nat → Prop} (hr : Rel C n f L a w β S) (hx : ev f x = .d (.fn k [])) (hc : Callable P k) (hp : PCall P k ds (· = [.c y]))
    (hall : All2 (RD (fun b => b < w.heap.size) w) ds (args.toList.map a.eval)) (hd : dstOk n dst = true) (K : Act → World → Prop) (Qc : Exit → Act → World → Prop) (hK : ∀ a' w' β' S', Rel C n (updo f dst (.d (.c y))) L a' w' β' S' → K a' w') :
    Oper.wp P ⟨dst, callV x args ts, ty, pos, after, none⟩ a w K Qc := by
  have hv := rel_ev hr x
  rw [hx] at hv
  obtain ⟨cv, c1, c2⟩ := VR_fn hv
  have hcv : cv = [] := by
    have := (DCs_len _ _ _ c2).1
    simpa [Lay.lens] using this
  subst hcv
  unfold Oper.wp
  rw [call_run hc c1, Oper.upon_enter]
  have heq : (args.map a.eval ++ ([] : List Value).toArray) = (args.toList.map a.eval).toArray := by
    rw [← Array.toList_map]
    exact Array.append_empty.trans (Array.toArray_toList).symm
  rw [heq]
  refine (hp w _ _ (fun b hb => hb) ((hT.tab hr).mono hr.hp.fz) hall).mono ?_
  rintro e w' ⟨z, rs, S', rfl, rfl, q2, q3, q4, q5⟩
  have hr' := hr.called0 q5
  refine hK _ _ _ _ (hr'.puto (dstOk_spec hd) ?_)
  have q2 : RD S' w' (.c y) z := q2
  have := VR0_of_RD (β := β) q2
  have := (VR0_c.1 this)
  exact VR_c.2 this

theorem AL_qcall (hT : CT P C) {x : Operand} {args : Array Operand} {ts : Array TypeId} {k : FuncId} {ds : List D} {y : Value} (hx : ev f x = .d (.fn k [])) (hc : Callable P k) (hp : PCall P k ds (· = [.c y]))
    (ha : All2 (RdA C L) (args.toList.map (ev f)) ds) (hd : dstOk n dst = true) (h : AL P C n ops rest Q (updo f dst (.d (.c y))) L) : AL P C n ops (⟨dst, callV x args ts, ty, pos, after, none⟩ :: rest) Q f L := by
  intro a w β S hr
  refine wpList_plain rfl fun K hK => ?_
  exact qcall_wp hT hr hx hc hp (RdL_RD hr _ _ ha) hd K _ fun a' w' β' S' hr' => hK _ _ (h a' w' β' S' hr')

/-- A call that reads what the state owns and hands out a tree of its own. -/
theorem AL_qocall (hT : CT P C) {x : Operand} {args : Array Operand} {ts : Array TypeId} {k : FuncId} {ds : List D} {rr : D} (l : Lay) (hx : ev f x = .d (.fn k [])) (hc : Callable P k) (hp : OCall P k ds rr)
    (ha : All2 (RdA C L) (args.toList.map (ev f)) ds) (hl : rr.len? = l.len) (hla : l.ag = rr.isAgg) (hd : dstOk n dst = true) (h : ∀ C' cs K, Got C rr l C' cs K → AL P C' n ops rest Q (updo f dst (rawV l cs)) L) : AL P C n ops (⟨dst, callV x args ts, ty, pos, after, none⟩ :: rest) Q f L := by
  intro a w β S hr
  refine wpList_plain rfl fun K hK => ?_
  have hv := rel_ev hr x
  rw [hx] at hv
  obtain ⟨cv, c1, c2⟩ := VR_fn hv
  have hcv : cv = [] := by
    have := (DCs_len _ _ _ c2).1
    simpa [Lay.lens] using this
  subst hcv
  unfold Oper.wp
  rw [call_run hc c1, Oper.upon_enter]
  have heq : (args.map a.eval ++ ([] : List Value).toArray) = (args.toList.map a.eval).toArray := by
    rw [← Array.toList_map]
    exact Array.append_empty.trans (Array.toArray_toList).symm
  rw [heq]
  refine (hp w _ _ (fun b hb => hb) ((hT.tab hr).mono hr.hp.fz) (RdL_RD hr _ _ ha)).mono ?_
  rintro e w' ⟨y, M, rfl, q1, q2, q3, q4⟩
  obtain ⟨C', hg, hr'⟩ := got_of hr q4 q1 q3 hl ((hr.called0 q4).puto (dstOk_spec hd) (raw_VR q1 q2 hl hla))
  exact hK _ _ (h C' _ M hg _ _ _ _ hr')

/-! ### Marks -/
/-- A function that writes into a tree in place. -/
def MCall (P : Program) (k : FuncId) (d : D) (m : Int) (d' : D) (m' : Int) : Prop :=
  ∀ (w : World) (x : Value) (K : List Nat), Tr w d x.cells.toList K → d.isAgg = isAggV x → Calls P k #[x, .int .i64 m] w fun e w' => e = .returned (.int .i64 m') ∧ Tr w' d' x.cells.toList K ∧ Pres (fun b => b ∈ K) w w'

/-- What a mark has left. -/
structure Mk (C : Cx) (K : List Nat) (C' : Cx) : Prop where
  pres : Pres (fun b => C.Dm b ∨ b ∈ K) C.w0 C'.w0
  dm : ∀ b, C'.Dm b → C.Dm b ∨ C.w0.heap.size ≤ b
  s0 : ∀ b, C.S0 b → C'.S0 b
  fz : ∀ b, C'.S0 b → C.S0 b ∨ C.w0.heap.size ≤ b ∨ C.Dm b
theorem Has.marked {B : Nat} {C C' : Cx} {d : D} {cs : List Value} {K K' : List Nat} (k : Has B C d cs K) (h : Mk C K' C') (hd : ∀ b ∈ K, b ∉ K') : Has B C' d cs K := by
  have hlt := Tr_lt _ _ _ k.tr
  refine ⟨Tr_keep _ _ _ (fun b hb => h.pres.block b (hlt b hb) fun h1 => h1.elim (k.dm b hb) (hd b hb)) k.tr, fun b hb h1 => ?_, fun b hb h1 => ?_, k.lo⟩
  · rcases h.dm b h1 with h2 | h2
    · exact k.dm b hb h2
    · have := hlt b hb; omega
  · rcases h.fz b h1 with h2 | h2 | h2
    · exact k.s0 b hb h2
    · have := hlt b hb; omega
    · exact k.dm b hb h2
theorem HasL.marked {B : Nat} {C C' : Cx} {l : Lay} {css : List (List Value)} {ds : List D} {K K' : List Nat} (k : HasL B C l css ds K) (h : Mk C K' C') (hd : ∀ b ∈ K, b ∉ K') : HasL B C' l css ds K := by
  have hlt := Trs_lt _ _ _ _ k.tr
  refine ⟨Trs_keep _ _ _ _ (fun b hb => h.pres.block b (hlt b hb) fun h1 => h1.elim (k.dm b hb) (hd b hb)) k.tr, k.len, k.each, fun b hb h1 => ?_, fun b hb h1 => ?_, k.lo⟩
  · rcases h.dm b h1 with h2 | h2
    · exact k.dm b hb h2
    · have := hlt b hb; omega
  · rcases h.fz b h1 with h2 | h2 | h2
    · exact k.s0 b hb h2
    · have := hlt b hb; omega
    · exact k.dm b hb h2
theorem CExt.marked {C0 C C' : Cx} {K : List Nat} (h : CExt C0 C) (k : Mk C K C') (hK : ∀ b ∈ K, C0.Dm b ∨ C0.w0.heap.size ≤ b) : CExt C0 C' := by
  have hs := h.pres.size
  refine ⟨⟨k.pres.os.trans h.pres.os, k.pres.tape.trans h.pres.tape, k.pres.output.trans h.pres.output, Nat.le_trans hs k.pres.size, fun b hb hd => ?_⟩, ?_, fun b hb => k.s0 b (h.s0 b hb), ?_⟩
  · rw [k.pres.block b (by omega) (fun h1 => by
      rcases h1 with h1 | h1
      · rcases h.dm b h1 with h2 | h2
        · exact hd h2
        · omega
      · rcases hK b h1 with h2 | h2
        · exact hd h2
        · omega)]
    exact h.pres.block b hb hd
  · intro b hb
    rcases k.dm b hb with h1 | h1
    · exact h.dm b h1
    · exact .inr (by omega)
  · intro b hb
    rcases k.fz b hb with h1 | h1 | h1
    · exact h.fz b h1
    · exact .inr (.inl (by omega))
    · rcases h.dm b h1 with h2 | h2
      · exact .inr (.inr h2)
      · exact .inr (.inl h2)

theorem AL_mcall {x y z : Operand} {ts : Array TypeId} {k : FuncId} {B : Nat} {d d' : D} {m m' : Int} {cs : List Value} {K : List Nat} (l : Lay) (hx : ev f x = .d (.fn k [])) (hc : Callable P k) (hp : MCall P k d m d' m') (hh : Has B C d cs K) (hl : cs.length = l.len) (hla : l.ag = d.isAgg) (hy : ev f y = rawV l cs) (hz : ev f z = i64 m)
    (hd : dstOk n dst = true) (h : ∀ C', Mk C K C' → Has B C' d' cs K → AL P C' n ops rest Q (updo f dst (i64 m')) L) : AL P C n ops (⟨dst, callV x #[y, z] ts, ty, pos, after, none⟩ :: rest) Q f L := by
  intro a w β S hr
  refine wpList_plain rfl fun Kc hK => ?_
  have hv := rel_ev hr x
  rw [hx] at hv
  obtain ⟨cv, c1, c2⟩ := VR_fn hv
  have hcv : cv = [] := by
    have := (DCs_len _ _ _ c2).1
    simpa [Lay.lens] using this
  subst hcv
  have hyv := rel_ev hr y
  rw [hy] at hyv
  have hk := rawV_known l cs
  have hne : rawV l cs ≠ .any := by intro e; rw [e] at hk; cases hk
  have hzv := eval_c hr hz
  rcases known_VR0 hyv hk with h1 | ⟨h1, h2⟩
  · exact absurd h1 hne
  have hcs := rawV_cells l cs _ hl h1
  have hlt := Tr_lt _ _ _ hh.tr
  have hsz := hr.pres.size
  have htr : Tr w d (a.eval y).cells.toList K := by
    rw [hcs]
    exact Tr_keep _ _ _ (fun b hb => hr.pres.block b (hlt b hb) (hh.dm b hb)) hh.tr
  unfold Oper.wp
  rw [call_run hc c1, Oper.upon_enter]
  have heq : ((#[y, z] : Array Operand).map a.eval ++ ([] : List Value).toArray) = #[a.eval y, .int .i64 m] := by simp [hzv]
  rw [heq]
  refine (hp w _ K htr (by rw [← hla, ← rawV_isAgg l cs, h2])).mono ?_
  rintro e w' ⟨rfl, q1, q2⟩
  rw [hcs] at q1
  have notS : ∀ b ∈ K, ¬ S b := fun b hb hs => by
    rcases hr.fz b hs with h3 | h3 | h3
    · exact hh.s0 b hb h3
    · have := hlt b hb; omega
    · exact hh.dm b hb h3
  have notB : ∀ b ∈ K, ∀ i bx c, L[i]? = some (some bx) → β i ≠ some (some (b, c)) := fun b hb i bx c hL hβ => by
    rcases hr.own i bx b c hL hβ with h3 | h3
    · exact hh.dm b hb h3
    · have := hlt b hb; omega
  have lat : Later β S w β S w' := ⟨fun _ _ h => h, fun _ h => h, fun b hb => q2.block b (hr.hp.fz b hb) fun h => notS b h hb⟩
  have hr2 : Rel ⟨w', boxBlk L β, S⟩ n f L a w' β S := by
    refine ⟨hr.df, hr.sz, fun i => VR_later lat (hr.fr i), ⟨fun i bx hi => BoxR_later lat (fun b c hb => q2.block b ((hr.hp.bx i bx hi).lt hb) fun h => notB b h i bx c hi hb) (hr.hp.bx i bx hi), hr.hp.inj, hr.hp.own, fun b hb => by have := hr.hp.fz b hb; have := q2.size; omega, hr.hp.un⟩, fun i bx b c hL hb => .inl ⟨i, bx, c, hL, hb⟩, fun b hb => .inl hb, fun b hb => hb, Pres.refl _ _⟩
  have hmk : Mk C K ⟨w', boxBlk L β, S⟩ := by
    refine ⟨⟨q2.os.trans hr.pres.os, q2.tape.trans hr.pres.tape, q2.output.trans hr.pres.output, Nat.le_trans hsz q2.size, fun b hb hd => ?_⟩, fun b ⟨i, bx, c, hL, hb⟩ => hr.own i bx b c hL hb, hr.s0, hr.fz⟩
    exact (q2.block b (by omega) fun h => hd (.inr h)).trans (hr.pres.block b hb fun h => hd (.inl h))
  refine hK _ _ (h _ hmk ⟨q1, fun b hb ⟨i, bx, c, hL, hβ⟩ => notB b hb i bx c hL hβ, notS, hh.lo⟩ _ _ _ _ (hr2.puto (dstOk_spec hd) (VR_c.2 ⟨rfl, rfl⟩)))
end
end Go.Eng

/- The engine: functions that mark, told by their blocks alone; lists of texts that stand apart; rows of clauses. -/
import Derived.Test.YtjhdkjacfclipaaMt
import Derived.Test.YtjhdkjacfclipaaEng26
import Derived.Test.YtjhdkjacfclipaaDb
set_option linter.unusedVariables false
set_option linter.unusedSimpArgs false
namespace Go.Eng

def MWk (P : Program) (k : FuncId) (d : D) (m m' : Int) : Prop :=
  ∀ (w : World) (x : Value) (K : List Nat), Tr w d x.cells.toList K → d.isAgg = isAggV x → Calls P k #[x, .int .i64 m] w fun e w' => e = .returned (.int .i64 m') ∧ Pres (fun b => b ∈ K) w w'
theorem MCall.weak {P : Program} {k : FuncId} {d d' : D} {m m' : Int} (h : MCall P k d m d' m') : MWk P k d m m' := fun w x K h1 h2 => (h w x K h1 h2).mono fun e w' ⟨q1, _, q2⟩ => ⟨q1, q2⟩
def retMW (fn : Func) (P : Program) (w0 : World) (K : List Nat) (m' : Int) (a : Act) (w' : World) : Prop :=
  a.defers = [] ∧ (results fn a.tmps).run P w' = .ok (.int .i64 m') w' ∧ Pres (fun b => b ∈ K) w0 w'
def retMWQ (fn : Func) (P : Program) (w0 : World) (K : List Nat) (m' : Int) : AQ := fun e a w => ends e = true ∧ retMW fn P w0 K m' a w
section
variable {P : Program} {C : Cx} {n : Nat} {f : Fr} {L : Hp} {Q : AQ} {ops : Array Oper} {rest : List Oper} {dst : Option Tmp} {ty : TypeId} {pos : String} {after : Array Edge}
theorem retMW_ok {C0 : Cx} {fn : Func} {K : List Nat} {m' : Int} (hx : Mk C0 K C) (hdm : ∀ b, ¬ C0.Dm b) (hrv : RetV P f L fn.results.toList [i64 m']) : Fin C n (retMWQ fn P C0.w0 K m' .ret) f L := by
  intro a w β S hr
  refine ⟨rfl, hr.df, ?_, ?_⟩
  · obtain ⟨ys, hy, hall⟩ := RetV_run hr hrv
    have hrun := results_run (fn := fn) hy
    cases hall with
    | cons h1 h2 =>
      cases h2
      have := (VR0_c.1 h1).1
      subst this
      simpa using hrun
  · have hs := hx.pres.size
    refine ⟨hr.pres.os.trans hx.pres.os, hr.pres.tape.trans hx.pres.tape, hr.pres.output.trans hx.pres.output, Nat.le_trans hs hr.pres.size, fun b hb hd => ?_⟩
    rw [hr.pres.block b (by omega) fun h => by
      rcases hx.dm b h with h1 | h1
      · exact hdm b h1
      · omega]
    exact hx.pres.block b hb fun h => h.elim (hdm b) hd
theorem AL_mwk {x y z : Operand} {ts : Array TypeId} {k : FuncId} {B : Nat} {d : D} {m m' : Int} {cs : List Value} {K : List Nat} (l : Lay) (hx : ev f x = .d (.fn k [])) (hc : Callable P k) (hp : MWk P k d m m') (hh : Has B C d cs K) (hl : cs.length = l.len) (hla : l.ag = d.isAgg) (hy : ev f y = rawV l cs) (hz : ev f z = i64 m)
    (hd : dstOk n dst = true) (h : ∀ C', Mk C K C' → AL P C' n ops rest Q (updo f dst (i64 m')) L) : AL P C n ops (⟨dst, callV x #[y, z] ts, ty, pos, after, none⟩ :: rest) Q f L := by
  intro a w β S hr
  refine wpList_plain rfl fun Kc hK => ?_
  have hv := rel_ev hr x
  rw [hx] at hv
  obtain ⟨cv, c1, c2⟩ := VR_fn hv
  have hcv : cv = [] := by
    have := (DCs_len _ _ _ c2).1
    simpa [Lay.lens] using this
  subst hcv
  have hyv := rel_ev hr y
  rw [hy] at hyv
  have hk := rawV_known l cs
  have hne : rawV l cs ≠ .any := by intro e; rw [e] at hk; cases hk
  have hzv := eval_c hr hz
  rcases known_VR0 hyv hk with h1 | ⟨h1, h2⟩
  · exact absurd h1 hne
  have hcs := rawV_cells l cs _ hl h1
  have hlt := Tr_lt _ _ _ hh.tr
  have hsz := hr.pres.size
  have htr : Tr w d (a.eval y).cells.toList K := by
    rw [hcs]
    exact Tr_keep _ _ _ (fun b hb => hr.pres.block b (hlt b hb) (hh.dm b hb)) hh.tr
  unfold Oper.wp
  rw [call_run hc c1, Oper.upon_enter]
  have heq : ((#[y, z] : Array Operand).map a.eval ++ ([] : List Value).toArray) = #[a.eval y, .int .i64 m] := by simp [hzv]
  rw [heq]
  refine (hp w _ K htr (by rw [← hla, ← rawV_isAgg l cs, h2])).mono ?_
  rintro e w' ⟨rfl, q2⟩
  have notS : ∀ b ∈ K, ¬ S b := fun b hb hs => by
    rcases hr.fz b hs with h3 | h3 | h3
    · exact hh.s0 b hb h3
    · have := hlt b hb; omega
    · exact hh.dm b hb h3
  have notB : ∀ b ∈ K, ∀ i bx c, L[i]? = some (some bx) → β i ≠ some (some (b, c)) := fun b hb i bx c hL hβ => by
    rcases hr.own i bx b c hL hβ with h3 | h3
    · exact hh.dm b hb h3
    · have := hlt b hb; omega
  have lat : Later β S w β S w' := ⟨fun _ _ h => h, fun _ h => h, fun b hb => q2.block b (hr.hp.fz b hb) fun h => notS b h hb⟩
  have hr2 : Rel ⟨w', boxBlk L β, S⟩ n f L a w' β S := by
    refine ⟨hr.df, hr.sz, fun i => VR_later lat (hr.fr i), ⟨fun i bx hi => BoxR_later lat (fun b c hb => q2.block b ((hr.hp.bx i bx hi).lt hb) fun h => notB b h i bx c hi hb) (hr.hp.bx i bx hi), hr.hp.inj, hr.hp.own, fun b hb => by have := hr.hp.fz b hb; have := q2.size; omega, hr.hp.un, hr.hp.ad⟩, fun i bx b c hL hb => .inl ⟨i, bx, c, hL, hb⟩, fun b hb => .inl hb, fun b hb => hb, Pres.refl _ _⟩
  have hmk : Mk C K ⟨w', boxBlk L β, S⟩ := by
    refine ⟨⟨q2.os.trans hr.pres.os, q2.tape.trans hr.pres.tape, q2.output.trans hr.pres.output, Nat.le_trans hsz q2.size, fun b hb hd => ?_⟩, fun b ⟨i, bx, c, hL, hb⟩ => hr.own i bx b c hL hb, hr.s0, hr.fz⟩
    exact (q2.block b (by omega) fun h => hd (.inr h)).trans (hr.pres.block b hb fun h => hd (.inl h))
  refine hK _ _ (h _ hmk _ _ _ _ (hr2.puto (dstOk_spec hd) (VR_c.2 ⟨rfl, rfl⟩)))
theorem MWk_of {k : FuncId} {fn : Func} {c : Code} {d : D} {m m' : Int} (l : Lay) (hf : P.funcs[k]? = some fn) (hb : fn.body = some c) (hn : fn.ntmps = n) (hlen : 2 ≤ n) (hl : d.len? = l.len) (hla : l.ag = d.isAgg)
    (h : ∀ C0 cs K, (∀ b, ¬ C0.Dm b) → Has 0 C0 d cs K → cs.length = l.len → AC P C0 n c (retMWQ fn P C0.w0 K m') (frM (rawV l cs) m) []) : MWk P k d m m' := by
  intro w x K ht hag
  refine calls_of_wp hf hb ?_
  subst hn
  let C0 : Cx := ⟨w, fun _ => False, fun _ => False⟩
  have hh : Has 0 C0 d x.cells.toList K := ⟨ht, fun _ _ h => h, fun _ _ h => h, fun _ _ => Nat.zero_le _⟩
  have hcl := (Tr_len ht).trans hl
  have hrel : Rel C0 fn.ntmps (frM (rawV l x.cells.toList) m) [] { tmps := #[x, .int .i64 m] ++ Array.replicate (fn.ntmps - #[x, Value.int .i64 m].size) undef, defers := [] } w (fun _ => none) (fun _ => False) := by
    refine ⟨rfl, by simp; omega, fun i => ?_, ⟨fun i b h => by simp at h, fun i j b bx bx' c c' h => by simp at h, fun i bx b c h => by simp at h, fun b h => h.elim, fun _ _ => rfl, fun i bx q h => by simp at h⟩, fun i bx b c h => by simp at h, fun b hb => hb.elim, fun b hb => hb, Pres.refl _ _⟩
    match i with
    | 0 =>
      have : (#[x, Value.int .i64 m] ++ Array.replicate (fn.ntmps - #[x, Value.int .i64 m].size) undef).getD 0 undef = x := by
        rw [Array.getD_eq_getD_getElem?, Array.getElem?_append_left (by simp)]; rfl
      rw [this]
      exact raw_VR ht hag hl hla
    | 1 =>
      have : (#[x, Value.int .i64 m] ++ Array.replicate (fn.ntmps - #[x, Value.int .i64 m].size) undef).getD 1 undef = .int .i64 m := by
        rw [Array.getD_eq_getD_getElem?, Array.getElem?_append_left (by simp)]; rfl
      rw [this]
      exact VR_c.2 ⟨rfl, rfl⟩
    | i + 2 => exact VR_any ..
  refine wp_mono (h C0 _ K (fun _ h => h) hh hcl _ w _ _ hrel) ?_
  rintro e a w' ⟨hend, h1, h2, h4⟩
  have fin : a.defers = [] ∧ ∃ v, (results fn a.tmps).run P w' = .ok v w' ∧ (Ending.returned v = .returned (.int .i64 m') ∧ Pres (fun b => b ∈ K) w w') := ⟨h1, _, h2, rfl, h4⟩
  cases e with
  | normal => exact fin
  | ret => exact fin
  | _ => cases hend
end

/-! ### Lists of texts -/
abbrev vs (s : ByteArray) : Value := .string s
theorem Trs_strs {w : World} : ∀ (xs : List ByteArray) (cs : List Value) (K : List Nat), Trs w (List.replicate xs.length .one) (strs xs) cs K → cs = xs.map vs ∧ K = []
  | [], cs, K, h => by
    simp only [strs, List.map_nil, Trs] at h
    exact ⟨by simpa using h.2.1, h.2.2⟩
  | x :: xs, cs, K, h => by
    simp only [strs, List.map_cons, List.length_cons, List.replicate_succ, Trs] at h
    obtain ⟨f, fr, c1, c2, M1, M2, e, rfl, h3, rfl, h5, h6, h7⟩ := h
    injection e with e1 e2
    subst e1; subst e2
    simp only [Tr] at h6
    obtain ⟨q1, q2⟩ := Trs_strs xs c2 M2 h7
    rw [h6.1, h6.2.2, q1, q2]
    exact ⟨rfl, rfl⟩
theorem strs_Trs {w : World} : ∀ (xs : List ByteArray), Trs w (List.replicate xs.length .one) (strs xs) (xs.map vs) []
  | [] => by simp [strs, Trs]
  | x :: xs => by
    simp only [strs, List.map_cons, List.length_cons, List.replicate_succ, Trs]
    exact ⟨_, _, [vs x], xs.map vs, [], [], rfl, rfl, rfl, rfl, by simp, by simp [Tr, Value.scalar], strs_Trs xs⟩
/-- A list of texts that stands apart, opened. -/
theorem open_strs {B : Nat} {C : Cx} {xs : List ByteArray} {cs : List Value} {K : List Nat} (h : Has B C (.sl .one (strs xs)) cs K) :
    (cs = [.slice none 0 0] ∧ xs = [] ∧ K = []) ∨ ∃ b Cp tail ty, K = [b] ∧ cs = [rawS b xs.length Cp] ∧ Blk C b (xs.map vs ++ tail) ty ∧ (xs.map vs ++ tail).length = Cp ∧ xs.length ≤ Cp ∧ Cp ≤ maxLen ∧ xs.length ≤ lim := by
  have ht := h.tr
  simp only [Tr, strs_length] at ht
  rcases ht with ⟨h1, h2, h3⟩ | ⟨b, Cp, cur, ty, vs, M', rfl, h2, h3, h4, h5, h6, h7, h8, h9, h10⟩
  · exact .inl ⟨h1, by simpa [strs] using h2, h3⟩
  · obtain ⟨rfl, rfl⟩ := Trs_strs xs vs M' h9
    have hcur : cur.toList = xs.map vs ++ cur.toList.drop xs.length := by
      have : cur.toList.take xs.length = xs.map vs := by
        apply List.ext_getElem?
        intro i
        by_cases hi : i < xs.length
        · rw [List.getElem?_take_of_lt hi]
          have := h10 i (vs xs[i]) (by simp [hi])
          rw [Array.getElem?_toList, this]
          simp [hi]
        · rw [List.getElem?_eq_none (by simp; omega), List.getElem?_eq_none (by simp; omega)]
      rw [← this, List.take_append_drop]
    refine .inr ⟨b, Cp, cur.toList.drop xs.length, ty, rfl, h3, ⟨?_, h.dm b (by simp), h.s0 b (by simp)⟩, ?_, h6, h7, h8⟩
    · rw [← hcur]; simpa using h4
    · rw [← hcur]; simpa [Lay.len] using h5
theorem close_strs {C : Cx} {ys : List ByteArray} {b Cp : Nat} {tail : List Value} {ty : TypeId} (hb : Blk C b (ys.map vs ++ tail) ty) (hl : (ys.map vs ++ tail).length = Cp) (h1 : ys.length ≤ Cp) (h2 : Cp ≤ maxLen) (h3 : ys.length ≤ lim) : Has 0 C (.sl .one (strs ys)) [rawS b ys.length Cp] [b] := by
  refine ⟨?_, fun b' hb' => by rw [List.mem_singleton] at hb'; rw [hb']; exact hb.dm, fun b' hb' => by rw [List.mem_singleton] at hb'; rw [hb']; exact hb.s0, fun _ _ => Nat.zero_le _⟩
  simp only [Tr, strs_length]
  refine .inr ⟨b, Cp, _, ty, ys.map vs, [], rfl, by simp, rfl, hb.hp, by simp only [Lay.len]; simpa using hl, h1, h2, h3, strs_Trs ys, fun j x hx => ?_⟩
  have hj := lt_of_get hx
  simp only [List.getElem?_toArray]
  rw [List.getElem?_append_left hj]
  exact hx

/-- The texts of marks, from one on. -/
def txts (k : Int) : Nat → List ByteArray
  | 0 => []
  | n + 1 => mtext k :: txts (k + 1) n
@[simp] theorem txts_length : ∀ (n : Nat) (k : Int), (txts k n).length = n
  | 0, _ => rfl
  | n + 1, k => by simp [txts, txts_length n]
theorem txts_get : ∀ (n j : Nat) (k : Int), j < n → (txts k n)[j]? = some (mtext (k + j))
  | 0, j, k, h => by omega
  | n + 1, 0, k, h => by simp [txts]
  | n + 1, j + 1, k, h => by
    have := txts_get n j (k + 1) (by omega)
    rw [show k + 1 + (j : Int) = k + ((j + 1 : Nat) : Int) by push_cast; omega] at this
    simpa [txts] using this
theorem txts_succ : ∀ (j : Nat) (k : Int), txts k (j + 1) = txts k j ++ [mtext (k + j)]
  | 0, k => by simp [txts]
  | j + 1, k => by
    have := txts_succ j (k + 1)
    rw [txts, this]
    simp only [txts, List.cons_append]
    rw [show k + 1 + (j : Int) = k + ((j + 1 : Nat) : Int) by push_cast; omega]
theorem txts_set {xs : List ByteArray} {tail : List Value} {j : Nat} {k : Int} (h : j < xs.length) : ((txts k j ++ xs.drop j).map vs ++ tail).set j (vs (mtext (k + j))) = (txts k (j + 1) ++ xs.drop (j + 1)).map vs ++ tail := by
  rw [txts_succ, List.drop_eq_getElem_cons h]
  simp only [List.map_append, List.map_cons, List.map_nil, List.append_assoc]
  rw [List.set_append_right _ _ (by simp)]
  simp

/-! ### Rows of clauses -/
def flatC : List Cl → List T
  | [] => []
  | c :: r => c.h :: c.b :: flatC r
def cntC (c : Cl) : Int := 7 + cntL c.h.kids + cntL c.b.kids
def cntCs : List Cl → Int
  | [] => 0
  | c :: r => cntC c + cntCs r
theorem cntCs_nn : ∀ cs : List Cl, 0 ≤ cntCs cs
  | [] => by simp [cntCs]
  | c :: r => by
    have := cntCs_nn r
    have := cntL_nn c.h.kids
    have := cntL_nn c.b.kids
    simp only [cntCs, cntC]; omega
theorem flatC_len : ∀ cs : List Cl, (flatC cs).length = 2 * cs.length
  | [] => rfl
  | c :: r => by simp only [flatC, List.length_cons, flatC_len r]; omega
/-- What of a block of clauses the marks leave: where the kids lie. -/
def ShC (cur As : List Value) (n : Nat) : Prop := ∀ j, j < n → cur[9 * j + 3]? = As[2 * j]? ∧ cur[9 * j + 7]? = As[2 * j + 1]?
theorem ShC.set {cur As : List Value} {n : Nat} (h : ShC cur As n) (p : Nat) (v : Value) (hp : ∀ j, p ≠ 9 * j + 3 ∧ p ≠ 9 * j + 7) : ShC (cur.set p v) As n := fun j hj => by
  rw [List.getElem?_set_ne (hp j).1, List.getElem?_set_ne (hp j).2]
  exact h j hj
theorem HasK.uncons {C : Cx} {u : T} {ys : List T} {As : List Value} {K : List Nat} (h : HasK C (u :: ys) As K) : ∃ A As' K1 K2, As = A :: As' ∧ K = K1 ++ K2 ∧ (∀ b ∈ K1, b ∉ K2) ∧ Has 0 C (.sl LT (injs u.kids)) [A] K1 ∧ HasK C ys As' K2 := by
  have ht := h.tr
  simp only [kidsD, List.map_cons, List.length_cons, List.replicate_succ] at ht
  obtain ⟨f, fr, c1, c2, M1, M2, e, rfl, h3, rfl, h5, h6, h7⟩ := Trs_cons.1 ht
  injection e with e1 e2
  subst e1; subst e2
  match c1, h3 with
  | [A], _ =>
    exact ⟨A, c2, M1, M2, rfl, rfl, h5, ⟨h6, fun b hb => h.dm b (by simp [hb]), fun b hb => h.s0 b (by simp [hb]), fun _ _ => Nat.zero_le _⟩, ⟨h7, fun b hb => h.dm b (by simp [hb]), fun b hb => h.s0 b (by simp [hb])⟩⟩
theorem Tr_clause {w : World} {c : Cl} {cs : List Value} {M : List Nat} (h : Tr w (injC c) cs M) : ∃ A1 A2 M1 M2, cs = [vi c.h.kind, .string c.h.name, vi c.h.num, A1, vi c.b.kind, .string c.b.name, vi c.b.num, A2, .string c.f] ∧ M = M1 ++ M2 ∧ (∀ b ∈ M1, b ∉ M2) ∧ Tr w (.sl LT (injs c.h.kids)) [A1] M1 ∧ Tr w (.sl LT (injs c.b.kids)) [A2] M2 := by
  obtain ⟨A1, A2, K1, K2, h1, h2, h3, h4, h5⟩ := C_cells (B := 0) (C := ⟨w, fun _ => False, fun _ => False⟩) ⟨h, fun _ _ h => h, fun _ _ h => h, fun _ _ => Nat.zero_le _⟩
  obtain ⟨A1', e1, q1⟩ := T_cells h4
  obtain ⟨A2', e2, q2⟩ := T_cells h5
  simp at e1 e2
  subst e1; subst e2
  exact ⟨A1, A2, K1, K2, h1, h2, h3, q1.tr, q2.tr⟩
theorem Trs_clauses {w : World} : ∀ (cs : List Cl) (vs : List Value) (K : List Nat), Trs w (List.replicate cs.length LC) (injCs cs) vs K → ∃ As, vs.length = 9 * cs.length ∧ ShC vs As cs.length ∧ Trs w (List.replicate (flatC cs).length .one) (kidsD (flatC cs)) As K
  | [], vs, K, h => by
    simp only [injCs, List.map_nil, List.length_nil, List.replicate_zero, Trs] at h
    obtain ⟨_, rfl, rfl⟩ := h
    exact ⟨[], rfl, fun j hj => absurd hj (Nat.not_lt_zero _), by simp [flatC, kidsD, Trs]⟩
  | c :: cs, vs, K, h => by
    simp only [injCs, List.map_cons, List.length_cons, List.replicate_succ] at h
    obtain ⟨f, fr, c1, c2, M1, M2, e, rfl, h3, rfl, h5, h6, h7⟩ := Trs_cons.1 h
    injection e with e1 e2
    subst e1; subst e2
    obtain ⟨A1, A2, N1, N2, rfl, rfl, g1, g2, g3⟩ := Tr_clause h6
    obtain ⟨As, q1, q2, q3⟩ := Trs_clauses cs c2 M2 h7
    refine ⟨A1 :: A2 :: As, by simp [q1]; omega, fun j hj => ?_, ?_⟩
    · cases j with
      | zero => simp
      | succ j =>
        have := q2 j (by simp at hj; omega)
        rw [show 9 * (j + 1) + 3 = (9 * j + 3) + 9 by omega, show 9 * (j + 1) + 7 = (9 * j + 7) + 9 by omega, show 2 * (j + 1) = 2 * j + 2 by omega, show 2 * j + 2 + 1 = (2 * j + 1) + 2 by omega]
        simpa using this
    · simp only [flatC, kidsD, List.map_cons, List.length_cons, List.replicate_succ]
      refine Trs_cons.2 ⟨_, _, [A1], A2 :: As, N1, N2 ++ M2, rfl, rfl, rfl, by simp, fun b hb hb2 => ?_, g2, Trs_cons.2 ⟨_, _, [A2], As, N2, M2, rfl, rfl, rfl, rfl, fun b hb => h5 b (by simp [hb]), g3, q3⟩⟩
      rcases List.mem_append.1 hb2 with hb2 | hb2
      · exact g1 b hb hb2
      · exact h5 b (by simp [hb]) hb2
/-- A list of clauses that stands apart, opened. -/
theorem open_clauses {B : Nat} {C : Cx} {ts : List Cl} {cs : List Value} {K : List Nat} (h : Has B C (.sl LC (injCs ts)) cs K) :
    (cs = [.slice none 0 0] ∧ ts = [] ∧ K = []) ∨ ∃ b Cp cur ty As K', K = b :: K' ∧ b ∉ K' ∧ cs = [rawS b ts.length Cp] ∧ Blk C b cur ty ∧ cur.length = Cp * 9 ∧ ShC cur As ts.length ∧ HasK C (flatC ts) As K' ∧ ts.length ≤ Cp ∧ ts.length ≤ lim := by
  have ht := h.tr
  unfold Tr at ht
  simp only [injCs_length] at ht
  rcases ht with ⟨h1, h2, h3⟩ | ⟨b, Cp, cur, ty, vs, M', rfl, h2, h3, h4, h5, h6, h7, h8, h9, h10⟩
  · exact .inl ⟨h1, by simpa [injCs] using h2, h3⟩
  · obtain ⟨As, q1, q2, q3⟩ := Trs_clauses ts vs M' h9
    refine .inr ⟨b, Cp, cur.toList, ty, As, M', rfl, h2, h3, ⟨by simpa using h4, h.dm b (by simp), h.s0 b (by simp)⟩, by simpa [Lay.len, Lay.lens] using h5, fun j hj => ?_, ⟨q3, fun b' hb => h.dm b' (by simp [hb]), fun b' hb => h.s0 b' (by simp [hb])⟩, h6, h8⟩
    have look : ∀ p, p < vs.length → cur.toList[p]? = vs[p]? := fun p hp => by
      rw [Array.getElem?_toList, h10 p vs[p] (by simp [hp])]
      simp [hp]
    rw [look _ (by omega), look _ (by omega)]
    exact q2 j hj
/-- A program's two lists, each a tree of its own. -/
theorem D_cells {B : Nat} {C : Cx} {d : Dbt} {cs : List Value} {K : List Nat} (h : Has B C (injD d) cs K) : ∃ A1 A2 K1 K2, cs = [A1, A2] ∧ K = K1 ++ K2 ∧ (∀ b ∈ K1, b ∉ K2) ∧ Has B C (.sl LC (injCs d.cs)) [A1] K1 ∧ Has B C (.sl .one (strs d.op)) [A2] K2 := by
  obtain ⟨xs, op⟩ := d
  have ht := h.tr
  unfold injD Tr at ht
  obtain ⟨f1, r1, c1, x1, M1, N1, e1, rfl, l1, rfl, a1, t1, t2⟩ := Trs_cons.1 ht
  obtain ⟨f2, r2, c2, x2, M2, N2, e2, rfl, l2, rfl, a2, t3, t4⟩ := Trs_cons.1 t2
  unfold Trs at t4
  obtain ⟨rfl, rfl, rfl⟩ := t4
  injection e1 with e1 e1'
  subst e1; subst e1'
  injection e2 with e2 e2'
  subst e2
  match c1, l1 with
  | [A1], _ => match c2, l2 with
    | [A2], _ =>
      exact ⟨A1, A2, M1, M2, rfl, by simp, fun b hb => by simpa using a1 b hb, ⟨t1, fun b hb => h.dm b (by simp [hb]), fun b hb => h.s0 b (by simp [hb]), fun b hb => h.lo b (by simp [hb])⟩, ⟨t3, fun b hb => h.dm b (by simp [hb]), fun b hb => h.s0 b (by simp [hb]), fun b hb => h.lo b (by simp [hb])⟩⟩
/-- A program whose lists are trees that stand apart. -/
theorem ow_D {C0 C C1 C2 : Cx} {L : Hp} {d : Dbt} {A1 A2 : Value} {K1 K2 : List Nat} (g1 : Got C (.sl LC (injCs d.cs)) .one C1 [A1] K1) (g2 : Got C1 (.sl .one (strs d.op)) .one C2 [A2] K2) (hB : C0.w0.heap.size ≤ C.w0.heap.size) :
    OwV C0.w0.heap.size C2 L (.agg [.one, .one] [.d (.c A1), .d (.c A2)]) (injD d) [] (K1 ++ (K2 ++ [])) := by
  obtain ⟨xs, op⟩ := d
  have hB2 : C0.w0.heap.size ≤ C1.w0.heap.size := by have := g1.ext.pres.size; omega
  have hlt := Tr_lt _ _ _ g1.has.tr
  refine OwV.agg (I := [] ++ ([] ++ [])) (K := K1 ++ (K2 ++ [])) (.cons (OwV.raw (l := .one) ((g1.has.ext g2.ext).le hB) rfl) (.cons (OwV.raw (l := .one) (g2.has.le hB2) rfl) .nil (by simp) (by simp)) (by simp) ?_)
  intro b hb hb2
  simp only [List.append_nil] at hb2
  have := hlt b hb
  have := g2.has.lo b hb2
  omega
theorem OwVs_strs {B : Nat} {C : Cx} {L : Hp} {xs : List ByteArray} {m : Nat} (hm : xs.length = m) : OwVs B C L (List.replicate m .one) ((strs xs).map V.d) (strs xs) [] [] := by
  subst hm
  have := OwVs.scal (B := B) (C := C) (L := L) (l := .one) (xs := xs.map fun n => Value.string n)
  rw [List.map_map, List.map_map, List.length_map] at this
  unfold strs
  rw [List.map_map]
  exact this
theorem VwL_of {L : Hp} {src : List (Option Nat)} {es : List V} {zs : List D} (h : es = zs.map V.d) : VwL L src es (zs.map V.d) := by subst h; exact VwL_d _
theorem injCs_take_get {ks : List Cl} {i : Nat} {u : Cl} (h : ks[i]? = some u) : injCs (ks.take (i + 1)) = injCs (ks.take i) ++ [injC u] := by
  simp [injCs, take_succ_get h]
@[simp] theorem injC_lenL (c : Cl) : (injC c).len? = LC.len := rfl
def zC : D := .agg [LT, LT, .one] [zT, zT, .c (.string ⟨#[]⟩)]
/-- A list of texts that is filled from the left. -/
def fillS (ss : List ByteArray) (j : Nat) : List D := strs (ss.take j) ++ List.replicate (ss.length - j) (.c (.string ⟨#[]⟩))
@[simp] theorem fillS_len (ss : List ByteArray) (j : Nat) : (fillS ss j).length = ss.length := by simp [fillS]; omega
theorem fillS_get {ss : List ByteArray} {j : Nat} (h : j < ss.length) : ((fillS ss j).map V.d)[0 + j]? = some (.d (.c (.string ⟨#[]⟩))) := by
  simp only [fillS, List.map_append, Nat.zero_add]
  rw [List.getElem?_append_right (by simp; omega)]
  simp [List.getElem?_replicate]
  omega
theorem fillS_set {ss : List ByteArray} {j : Nat} {s : ByteArray} (h : ss[j]? = some s) : ((fillS ss j).map V.d).set (0 + j) (.d (.c (.string s))) = (fillS ss (j + 1)).map V.d := by
  have hlt := lt_of_get h
  simp only [fillS, Nat.zero_add, take_succ_get h]
  rw [show ss.length - j = (ss.length - (j + 1)) + 1 by omega, List.replicate_succ]
  simp only [strs, List.map_append, List.map_cons, List.map_nil]
  rw [List.set_append_right _ _ (by simp; omega)]
  simp
  rw [show j - min j ss.length = 0 by omega]
  rfl
theorem fillS_zero (ss : List ByteArray) : fillS ss 0 = List.replicate ss.length (.c (.string ⟨#[]⟩)) := by simp [fillS, strs]
theorem fillS_done (ss : List ByteArray) : fillS ss ss.length = strs ss := by simp [fillS]
theorem ixo {l : List Value} {o o' : Nat} {v : Value} (h : o' = o) (hv : l[o]? = some v) : l[o']? = some v := h ▸ hv
theorem cast_m {P : Program} {k : FuncId} {d : D} {m m' a b : Int} (h1 : m = a) (h2 : m' = b) (h : MWk P k d m m') : MWk P k d a b := h1 ▸ h2 ▸ h
theorem drop_two {α : Type} {l r : List α} {j : Nat} {a b : α} (h : l.drop (2 * j) = a :: b :: r) : l[2 * j]? = some a ∧ l[2 * j + 1]? = some b ∧ r = l.drop (2 * (j + 1)) := by
  refine ⟨?_, ?_, ?_⟩
  · have := congrArg (fun l => l[0]?) h
    simpa using this
  · have := congrArg (fun l => l[1]?) h
    simpa using this
  · have := congrArg (List.drop 2) h
    rw [List.drop_drop] at this
    rw [show 2 * (j + 1) = 2 * j + 2 by omega, this]
    rfl
theorem cntCs_take {cs : List Cl} {j : Nat} {u : Cl} (h : cs[j]? = some u) : cntCs (cs.take (j + 1)) = cntCs (cs.take j) + cntC u := by
  induction cs generalizing j with
  | nil => simp at h
  | cons c r ih =>
    cases j with
    | zero => simp at h; subst h; simp [cntCs]
    | succ j =>
      have := ih (j := j) (by simpa using h)
      simp only [List.take_succ_cons, cntCs]
      omega
theorem cntCs_take_le (cs : List Cl) (j : Nat) : cntCs (cs.take j) ≤ cntCs cs := by
  induction cs generalizing j with
  | nil => simp
  | cons c r ih =>
    cases j with
    | zero => have := cntCs_nn (c :: r); simpa [cntCs] using this
    | succ j =>
      have := ih j
      simp only [List.take_succ_cons, cntCs]
      omega
@[simp] theorem injD_lenL (d : Dbt) : (injD d).len? = LD.len := by cases d; rfl
@[simp] theorem injD_agL (d : Dbt) : LD.ag = (injD d).isAgg := by cases d; rfl
theorem ReadsL_eq {L : Hp} {F : Nat → Prop} {es : List V} {xs : List D} (h : es = xs.map V.d) : ReadsL L F es xs := h ▸ ReadsL_d xs
end Go.Eng
